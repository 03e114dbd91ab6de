/- LivePools: what its walk leans on. -/
import Derived.Test.YthhbdbeglmkijaaGreatDoorMAq
import Derived.Test.YthhbdbeglmkijaaGreatDoorMAr
import Derived.Test.YthhbdbeglmkijaaGreatDoorMAs
import Derived.Test.YthhbdbeglmkijaaGreatDoorMAg
import Derived.Test.YthhbdbeglmkijaaGreatDoorRows
import Derived.JoinedOf
import Derived.LaidLaws
import Derived.Test.YthhbdbeglmkijaaGreatDoorMAh
import Derived.Lib.LaidTab
import Derived.LaidSub
import Derived.FnData
import Derived.Test.YthhbdbeglmkijaaGreatDoorMAk
import Derived.Test.YthhbdbeglmkijaaGreatDoorMAp
set_option maxRecDepth 100000
set_option linter.unusedVariables false
set_option linter.unusedSimpArgs false
noncomputable section
open Bool renaming false→za,true→ze,not_eq_true'→yj,and_eq_true→zM
open Go.Fw.V renaming cons→zf,rsl→zl,int→zn,nil→zh,agg→zH,bool→zC
open Go.IntKind renaming wrap→zy,bits→zR,i64→zq
open BitVec renaming toNat→yA,ofInt→zU
open Int renaming toNat→zi
open Nat renaming not_lt_zero→yB,eq_or_lt_of_le→yE,le_refl→zJ,beq→zo,eq_of_beq_eq_true→zP,blt→zG,zero_add→z8,ble→zK
namespace Go.Proofs.YthhbdbeglmkijaaGreatDoor
open Go.Fw
def k_short(a e:Za):Con:=Yh 8 (λ_=>.cons (.agg (Z9 za a)) .nil) (λ_=>.agg (Z9 za e)) (λ_=>True)
theorem Zqg(a:Za):(k_short a (WQ a)).Ok P:=Yi λ_ _=>Zrw a
structure DoA where
 n:Za
 k:Int
 e:Int
def doV(r:DoA):V:=.tup (.cons (.agg (Z9 za r.n)) (.cons (.int za .i64 r.k) (.cons (.int za .i64 r.e) .nil)))
def doC(a:Za)(q f g s:Int):V:=.cons (.agg (Z9 za a)) (.cons (chgV q f g s) .nil)
def k_Do(e:Za)(f s:Int)(r r2:DoA)(p:Prop):Con:={ g:=10,al:=ze,ans:=λx=>bif x.known then none else some (bif x.tl.hd.inner.hd.toInt==8 then .where_ (sR x (doC e 8 f 0 s)) (doV r)else .where_ (sR x (doC r.n 9 r.k f 0)/\p) (doV r2)) }
theorem k_Do_ok{e:Za}{f s:Int}{r r2:DoA}{p:Prop}(h1:Zi P 10 (doC e 8 f 0 s) (doV r))(h2:p->Zi P 10 (doC r.n 9 r.k f 0) (doV r2)):(k_Do e f s r r2 p).Ok P:=by
 intro x
 show match(bif x.known then none else some (bif x.tl.hd.inner.hd.toInt==8 then Ans.where_ (sR x (doC e 8 f 0 s)) (doV r)else .where_ (sR x (doC r.n 9 r.k f 0)/\p) (doV r2)))with
  |some (.sure v)=>Zi P 10 x v
  |some (.where_ p v)=>p->Zi P 10 x v
  |some (.fork b v v')=>(b=ze->Zi P 10 x v)/\(b=za->Zi P 10 x v')
  |none=>True
 cases x.known with
 |true=>trivial
 |false=>
  cases(x.tl.hd.inner.hd.toInt==8)
  ·exact λhp=>⟨(h2 hp.2).1,λF w xs hfd hgl ha=>(h2 hp.2).2 F w xs hfd hgl ((sR_R x _ hp.1 0 _).2 _ ha)⟩
  ·exact λhp=>⟨h1.1,λF w xs hfd hgl ha=>h1.2 F w xs hfd hgl ((sR_R x _ hp 0 _).2 _ ha)⟩
def k_on(n:Za)(c:Int->Int)(o:Int->Bool):Con:=Yh 14 (λx=>.cons (.agg (Z9 za n)) (.cons (.int za .i64 x.tl.hd.toInt) .nil)) (λx=>.tup (.cons (.int za .i64 (c x.tl.hd.toInt)) (.cons (.bool za (o x.tl.hd.toInt)) .nil))) (λ_=>True)
def Zdh(e:Za)(c:Int->Int)(o:Int->Bool):Con:=Yh 54 (λx=>.cons (.agg (Z9 za e)) (.cons (.int za .i64 x.tl.hd.toInt) .nil)) (λx=>.tup (.cons (.int za .i64 (c x.tl.hd.toInt)) (.cons (.bool za (o x.tl.hd.toInt)) .nil))) (λ_=>True)
theorem k_on_ok{n:Za}(h:small n):(k_on n (V3 n) (KA n)).Ok P:=Yi λx _=>on_meets n _ h
theorem Zlz{e:Za}(h:small e):(Zdh e (K4 e) (JG e)).Ok P:=Yi λx _=>Zq7 e _ h
abbrev lawL(Ck:Za->Int)(a e:Za)(f s:Int)(r r2:DoA)(p:Prop)(Oc:Int->Int)(Oi:Int->Bool)(Qp:Int->Int)(Qi:Int->Bool)(Sm:Zg->Zg->Bool):List Con:=[Zh6,k_short a e,U9 Ck,k_Do e f s r r2 p,k_on r.n Oc Oi,Zdh e Qp Qi,Zkm Sm]
abbrev lw_ts(e n:Za)(f s k:Int)(Oc:Int->Int)(Oi:Int->Bool)(Qp:Int->Int)(Qi:Int->Bool)(i:Int)(z:Unit):V:=(.cons (.int za .i64 f) (.cons (.int za .u32 s) (.cons (.bool ze za) (.cons (.ptr ze 1 0 0 0) (.cons (.ptr ze 2 0 0 0) (.cons (.int za .i64 k) (.cons (.rsl za 2 e.n12 (λj=>Zt za (e.r12 j))) (.cons (.int za .i64 ((e.n12:Nat):Int)) (.cons (.int za .i64 i) .nil)))))))))
abbrev lw_ys(e n:Za)(f s k:Int)(Oc:Int->Int)(Oi:Int->Bool)(Qp:Int->Int)(Qi:Int->Bool)(i:Int)(z:Unit):List Blk:=[.var (Z9 za e),.var (Z9 za n)]
def lw_R(e n:Za)(f s k:Int)(Oc:Int->Int)(Oi:Int->Bool)(Qp:Int->Int)(Qi:Int->Bool)(i:Int)(z:Unit):Tree Rd:=
 let q0:=(ci e.f0 (zf (zl za 2 e.n1 λj=>ZR za (e.3 j)) (zf (zl za 1 e.n2 λj=>zf (zn za .u32 (e.5 j).f0) zh) (zf (zl za 4 e.n3 λj=>Zr za (e.7 j)) (zf (zl za 4 e.n4 λj=>Zn za (e.9 j)) (zf (zl za 2 e.n5 λj=>ci (e.11 j).f0 (zf (zl za 1 (e.11 j).n1 λj_1=>ci ((e.11 j).r1 j_1).f0 zh) zh)) (zf (zl za 11 e.n6 λj=>Zo za (e.13 j)) (zf (zl za 2 e.n7 λj=>ZO za (e.15 j)) (zf (zl za 5 e.n8 λj=>ZI za (e.17 j)) (ci e.f9 (zf (zl za 2 e.n10 λj=>ZE za (e.20 j)) (zf (zl za 3 e.n11 λj=>Zx za (e.22 j)) (zf (zl za 2 e.n12 λj=>Zt za (e.24 j)) (zf (zn za .u64 e.f13) zh))))))))))))))
 let q1:=(ci n.f0 (zf (zl za 2 n.n1 λj=>ZR za (n.3 j)) (zf (zl za 1 n.n2 λj=>zf (zn za .u32 (n.5 j).f0) zh) (zf (zl za 4 n.n3 λj=>Zr za (n.7 j)) (zf (zl za 4 n.n4 λj=>Zn za (n.9 j)) (zf (zl za 2 n.n5 λj=>ci (n.11 j).f0 (zf (zl za 1 (n.11 j).n1 λj_1=>ci ((n.11 j).r1 j_1).f0 zh) zh)) (zf (zl za 11 n.n6 λj=>Zo za (n.13 j)) (zf (zl za 2 n.n7 λj=>ZO za (n.15 j)) (zf (zl za 5 n.n8 λj=>ZI za (n.17 j)) (ci n.f9 (zf (zl za 2 n.n10 λj=>ZE za (n.20 j)) (zf (zl za 3 n.n11 λj=>Zx za (n.22 j)) (zf (zl za 2 n.n12 λj=>Zt za (n.24 j)) (zf (zn za .u64 n.f13) zh))))))))))))))
 let q2:=(zy .u32 ((yA (zU (zR .u32) (Int.fdiv s ((2:Int)^min (zi (e.24 (zi i)).f1) (zR .u32)))&&& zU (zR .u32) (1:Int)):Nat):Int)>(0:Int))
 let q3:=(ci (e.24 (zi i)).f0 zh)
 let q4:=(e.24 (Int.rec (λa=>a) (λa=>(0:Nat)) i))
 let q5:=(decide q2=ze->zf (zH q0) q3=zf (zH q0) q3/\True)
 let q6:=(zl za 2 e.n12 λjj=>Zt za (e.24 jj))
 Tree.need (((0:Int)<=i/\i<((e.n12:Nat):Int))/\(zf (zH q1) q3=zf (zH q1) q3/\True)/\(Oi q4.1=ze->(Oc q4.1 != (e.24 (zi i)).f1)=za->Oi q4.1=ze->(0:Int)<=(e.24 (zi i)).f1/\q5)/\(Oi q4.1=za->Oi q4.1=ze->(0:Int)<=(e.24 (zi i)).f1/\q5)) (Tree.node (bif bif bif Oi (e.24 (zi i)).f0 then bif Oc (e.24 (zi i)).f0 != (e.24 (zi i)).f1 then ze else bif Oi (e.24 (zi i)).f0 then bif decide q2 then bif Qi (e.24 (zi i)).f0 then Qp (e.24 (zi i)).f0==f else za else za else za else bif Oi (e.24 (zi i)).f0 then bif decide q2 then bif Qi (e.24 (zi i)).f0 then Qp (e.24 (zi i)).f0==f else za else za else za then ze else za then ze else za) (Tree.leaf (Ex.ret,ze,ci f (zf (zn za .u32 s) (zf (zC ze za) (zf (pt 1) (zf (pt 2) (ci k (zf q6 (ci ((e.n12:Nat):Int) (ci i zh)))))))),[Blk.var q0,Blk.var q1])) (Tree.leaf (Ex.normal,ze,ci f (zf (zn za .u32 s) (zf (zC ze za) (zf (pt 1) (zf (pt 2) (ci k (zf q6 (ci ((e.n12:Nat):Int) (ci (zy .i64 (i+(1:Int))) zh)))))))),[Blk.var q0,Blk.var q1])))
theorem lw_round(e n:Za)(f s k:Int)(Oc:Int->Int)(Oi:Int->Bool)(Qp:Int->Int)(Qi:Int->Bool):Yo P (Zp P [k_on n Oc Oi,Zdh e Qp Qi] [] ze) 6 10 3 3 101 [1,2,6,7,8,9,39,40,41] [(1,.own),(2,.own)] [] (lw_ts e n f s k Oc Oi Qp Qi) (lw_ys e n f s k Oc Oi Qp Qi) (λi=>(bif decide (i<((e.n12:Nat):Int))then za else ze)) (.exit 0) (lw_R e n f s k Oc Oi Qp Qi):=λB i z=>by kernel_rfl
def Zbr(e n:Za)(f s k:Int)(Oc:Int->Int)(Oi:Int->Bool)(Qp:Int->Int)(Qi:Int->Bool)(k:Nat):Bool:=(λ(i:Int)(z:Unit)=>(bif bif bif bif Oi (e.24 (zi i)).f0 then bif Oc (e.24 (zi i)).f0 != (e.24 (zi i)).f1 then ze else bif Oi (e.24 (zi i)).f0 then bif decide (zy .u32 ((yA (zU (zR .u32) (Int.fdiv s ((2:Int)^min (zi (e.24 (zi i)).f1) (zR .u32)))&&& zU (zR .u32) (1:Int)):Nat):Int)>(0:Int))then bif Qi (e.24 (zi i)).f0 then Qp (e.24 (zi i)).f0==f else za else za else za else bif Oi (e.24 (zi i)).f0 then bif decide (zy .u32 ((yA (zU (zR .u32) (Int.fdiv s ((2:Int)^min (zi (e.24 (zi i)).f1) (zR .u32)))&&& zU (zR .u32) (1:Int)):Nat):Int)>(0:Int))then bif Qi (e.24 (zi i)).f0 then Qp (e.24 (zi i)).f0==f else za else za else za then ze else za then ze else za then ze else za)) k ()
abbrev lw_ets(e n:Za)(f s k:Int)(Oc:Int->Int)(Oi:Int->Bool)(Qp:Int->Int)(Qi:Int->Bool)(i:Int)(z:Unit):V:=(.cons (zn za .i64 f) (.cons (zn za .u32 s) (.cons (zC ze za) (.cons (V.ptr ze 1 0 0 0) (.cons (V.ptr ze 2 0 0 0) (.cons (zn za .i64 k) (.cons (zl za 2 e.n12 λjj=>Zt za (e.24 jj)) (.cons (zn za .i64 ((e.n12:Nat):Int)) (.cons .junk .nil)))))))))
def lw_lp(e n:Za)(f s k:Int)(Oc:Int->Int)(Oi:Int->Bool)(Qp:Int->Int)(Qi:Int->Bool):Lp:=lpL 6 10 3 3 101 [1,2,6,7,8,9,39,40,41] [(1,.own),(2,.own)] [] (lw_ts e n f s k Oc Oi Qp Qi) (lw_ys e n f s k Oc Oi Qp Qi) (.exit 0) .ret () (λ_=>()) (Zbr e n f s k Oc Oi Qp Qi) (e.n12) (lw_ets e n f s k Oc Oi Qp Qi) (lw_ys e n f s k Oc Oi Qp Qi)
def lw_need(e n:Za)(f s k:Int)(Oc:Int->Int)(Oi:Int->Bool)(Qp:Int->Int)(Qi:Int->Bool):Prop:=YW 3 [] (lw_ts e n f s k Oc Oi Qp Qi) (lw_ys e n f s k Oc Oi Qp Qi) () (lw_ts e n f s k Oc Oi Qp Qi (0:Nat) ()) (lw_ys e n f s k Oc Oi Qp Qi (0:Nat) ())
theorem lw_fit(e n:Za)(f s k:Int)(Oc:Int->Int)(Oi:Int->Bool)(Qp:Int->Int)(Qi:Int->Bool):lw_need e n f s k Oc Oi Qp Qi:=⟨rfl,⟨rfl,rfl,trivial⟩⟩
theorem lw_lp_ok(e n:Za)(f s k:Int)(Oc:Int->Int)(Oi:Int->Bool)(Qp:Int->Int)(Qi:Int->Bool)(ho:(k_on n Oc Oi).Ok P)(hq:(Zdh e Qp Qi).Ok P)(hl:e.n12<=1000)(hc:∀j,j<e.n12->0<=(e.r12 j).f1):(lw_lp e n f s k Oc Oi Qp Qi).Ok P:=by
 refine Xg ((ZC hm hn (l:=[k_on n Oc Oi,Zdh e Qp Qi]) ⟨ho,hq,trivial⟩ (ls:=[]) trivial ze)) rfl (by kernel_rfl) (lw_round e n f s k Oc Oi Qp Qi) exN YK (λ_=>rfl) (step:=λ_ z=>z) (rd:=(λ_ t y=>())) (λi z=>rfl) (λi=>(cC rfl rfl)) rfl (λi hlt hg=>?_) (λi z hi=>?_)
 ·have hltI:(i:Int)<((e.n12:Nat):Int):=by omega
  refine⟨?_,⟨λhb0=>trivial,λhb0=>trivial⟩⟩
  all_goals(have hf0:=hc (zi (i:Int)) (by omega))
  all_goals(repeat'(first|exact rfl|exact λ_=>⟨rfl,rfl⟩|apply And.intro|intro _))
  all_goals(try simp only[decide_eq_true_eq,decide_eq_false_iff_not,yj,Bool.not_eq_false']at*)
  all_goals(try simp(disch:=omega) only[IntWalk.i64_in])
  all_goals(first|omega)
 ·have hw:=(IntWalk.i64_in ((i:Int)+1) ⟨by omega,by omega⟩)
  refine⟨?_,?_⟩
  all_goals(first|exact⟨rfl,YL (ts:=lw_ts e n f s k Oc Oi Qp Qi) (a:=()) hw rfl,Yg _⟩|exact⟨rfl,rfl,(by repeat'(first|exact Le.refl _|exact Le.junk _ rfl|apply Le.cons)),Yg _⟩)
end Go.Proofs.YthhbdbeglmkijaaGreatDoor
namespace Go.Proofs.YthhbdbeglmkijaaGreatDoor.livePools
open Go
theorem Xu{a b:Bool}(ha:a=ze)(hb:b=ze):(a&&b)=ze:=by rw[ha,hb];rfl
theorem fact0:(Rows.livePoolsRow.wf (OpenSpec.ofChange Rows.livePoolsSpec))=ze:=by kernel_rfl
theorem fact1:(laidOutB Tryz.prog)=ze:=by kernel_rfl
theorem fact2:(mapsRowed Tryz.prog)=ze:=by kernel_rfl
theorem fact3:(Tryz.f6.params.all (Tryz.prog.readableRec ·))=ze:=by kernel_rfl
theorem fact4:(namedTie Tryz.prog Rows.livePoolsRow.named Rows.livePoolsSpec.vars)=ze:=by kernel_rfl
theorem fact5:(Rows.livePoolsRow.stops==[])=ze:=by kernel_rfl
theorem fact6:(Tryz.prog.stops==[])=ze:=by kernel_rfl
theorem fact7:(Rows.livePoolsRow.knobs==[])=ze:=by kernel_rfl
theorem fact8:(Tryz.prog.stopKnobs==[])=ze:=by kernel_rfl
theorem fact9:(Rows.livePoolsRow.inPlace==Tryz.prog.inPlace 6)=ze:=by kernel_rfl
theorem fact10:(Rows.livePoolsRow.unfollowed==Tryz.prog.unfollowed 6)=ze:=by kernel_rfl
theorem fact11:(Rows.livePoolsRow.recurses==Tryz.prog.recurses 6)=ze:=by kernel_rfl
theorem fact12:(Rows.livePoolsRow.named==Tryz.prog.varsNamed 6)=ze:=by kernel_rfl
theorem fact13:(Rows.livePoolsRow.maps==(Tryz.f6.params.toList++Rows.livePoolsSpec.plain.varTypes Tryz.prog).any (Tryz.prog.mapsRec ·))=ze:=by kernel_rfl
theorem fact14:(Rows.livePoolsRow.ifaces==(Tryz.f6.params.toList++Rows.livePoolsSpec.plain.varTypes Tryz.prog).any (Tryz.prog.ifacesRec ·))=ze:=by kernel_rfl
theorem fact15:(Rows.livePoolsRow.mapsOut==Tryz.prog.mapsAmong Tryz.f6.resultTypes.toList)=ze:=by kernel_rfl
theorem fact16:(Rows.livePoolsRow.loops==(Tryz.f6.params.toList++Rows.livePoolsSpec.plain.varTypes Tryz.prog).any (Tryz.prog.loopsFrom ·))=ze:=by kernel_rfl
theorem fact17:(Rows.livePoolsRow.wideKeys==(Tryz.f6.params.toList++Rows.livePoolsSpec.plain.varTypes Tryz.prog++Tryz.f6.resultTypes.toList).any (Tryz.prog.wideKeysFrom ·))=ze:=by kernel_rfl
theorem fact18:(Rows.livePoolsSpec.vars.all (Tryz.prog.varReadable ·))=ze:=by kernel_rfl
theorem fact19:(Tryz.f6.resultTypes.all (λt=>Tryz.prog.readableRec t&&decide (t<Tryz.prog.types.size)))=ze:=by kernel_rfl
theorem fact20:(Rows.livePoolsRow.ifacesOut==Tryz.f6.resultTypes.toList.any (Tryz.prog.ifacesRec ·))=ze:=by kernel_rfl
theorem fact21:(Rows.livePoolsRow.loopsOut==Tryz.f6.resultTypes.toList.any (Tryz.prog.loopsFrom ·))=ze:=by kernel_rfl
theorem fact22:(Rows.livePoolsRow.plainKeys==Tryz.prog.plainKeys)=ze:=by kernel_rfl
theorem fact23:(Rows.livePoolsRow.shortTexts.isNone)=ze:=by kernel_rfl
theorem fact24:(Tryz.prog.stopsHeard)=ze:=by kernel_rfl
theorem fact25:(Tryz.prog.mayEnter)=ze:=by kernel_rfl
theorem fact26:(Rows.livePoolsRow.lifted==Tryz.prog.liftsFinal)=ze:=by kernel_rfl
theorem fact27:(Tryz.prog.make==some Rows.livePoolsRow.make)=ze:=by kernel_rfl
theorem fact28:(Rows.livePoolsRow.kinds==(if Rows.livePoolsRow.domain.isEmpty then []else Tryz.f6.params.toList.map λt=>match Tryz.prog.underlying t with|some (.int k)=>some k|_=>none))=ze:=by kernel_rfl
theorem fact29:(Rows.livePoolsRow.pinned==Rows.livePoolsRow.pinnedBy)=ze:=by kernel_rfl
theorem fact30:(Rows.livePoolsRow.veiled==(Tryz.f6.params.toList++Rows.livePoolsSpec.plain.varTypes Tryz.prog++Tryz.f6.resultTypes.toList).any (Tryz.prog.veiledRec ·))=ze:=by kernel_rfl
theorem fact31:(Rows.livePoolsRow.veiledFits Tryz.prog Tryz.f6.params.toList (Tryz.f6.params.toList++Rows.livePoolsSpec.plain.varTypes Tryz.prog++Tryz.f6.resultTypes.toList))=ze:=by kernel_rfl
theorem closed:joinedFacts Tryz.prog 6 Tryz.f6 Rows.livePoolsSpec Rows.livePoolsRow=ze:=
 (Xu (Xu (Xu (Xu (Xu (Xu (Xu (Xu (Xu (Xu (Xu (Xu (Xu (Xu (Xu (Xu (Xu (Xu (Xu (Xu (Xu (Xu (Xu (Xu (Xu (Xu (Xu (Xu (Xu (Xu (Xu fact0 fact1) fact2) fact3) fact4) fact5) fact6) fact7) fact8) fact9) fact10) fact11) fact12) fact13) fact14) fact15) fact16) fact17) fact18) fact19) fact20) fact21) fact22) fact23) fact24) fact25) fact26) fact27) fact28) fact29) fact30) fact31)
end Go.Proofs.YthhbdbeglmkijaaGreatDoor.livePools
namespace Go.Proofs.YthhbdbeglmkijaaGreatDoor
open Go.Fw
variable{n:Nat}
theorem tabRow_RL{F:Nat->Prop}{w:World}{m:Nat->Option Nat}(k:IntKind):∀zs:List Int,RL F w (Zaq k zs) n m (zs.map (Value.int k)):=by
 intro zs
 induction zs with
 |nil=>simp only[Zaq,List.map_nil,RL]
 |cons z zs ih=>simp only[Zaq,List.map_cons,RL,R];exact⟨_,_,rfl,rfl,ih⟩
theorem tab_R{W:World}{g:Nat}{k:IntKind}{zs:List Int}{name:String}(hg:P.globalNamed name=some g)(hn:zs.length=n)(h:Lib.TabIs P W name k zs) :
  R (λB=>B<W.heap.size) W (.rptr ze n 1 (λ_=>Zaq k zs) 0 0) 0 (λ_=>none) (.pointer (some ⟨g,0,none⟩))/\exactAt (λB=>B<W.heap.size) W g (.rptr ze n 1 (λ_=>Zaq k zs) 0 0):=by
 unfold Lib.TabIs World.var? at h
 rw[hg]at h
 simp only[Option.bind_some]at h
 split at h
 ·rename_i cs el fr hc
  injection h with h
  refine⟨?_,Zde hc,cs,el,fr,hc,by rw[h];simpa using hn⟩
  rw[Kc]
  refine⟨by decide,g,0,by simp,Zde hc,cs,el,fr,hc,λj hj=>⟨zs.map (Value.int k),tabRow_RL k zs,by simpa using hn,λq _=>?_⟩⟩
  have:j=0:=by omega
  subst this
  rw[h]
  simp
 ·cases h
theorem gok_of{laid:List (String×DataW Unit)}{W:World}(hL:laidMetH P laid W)
  (h0 : (laid.filter λx=>x.1== "math/bits.deBruijn32tab")=[("math/bits.deBruijn32tab",Lib.tabData .u8 tab0)]) : GOk (λB=>B<W.heap.size) W:=by
 have a0:=laidMetH.filter (λx=>x.1== "math/bits.deBruijn32tab") hL
 rw[h0]at a0
 have a0 : laidMet P [("math/bits.deBruijn32tab",Lib.tabData .u8 tab0)] W:=a0
 intro g v hg
 unfold glob at hg
 split at hg
 ·injection hg with hg;subst hg
  exact⟨rfl,tab_R (name:= "math/bits.deBruijn32tab") (by kernel_rfl) (by kernel_rfl) (Lib.tabIs_of_head (g:=0) (t:=348) (e:=5) (n:=32) (by kernel_rfl) (by kernel_rfl) (by kernel_rfl) (by kernel_rfl) (by kernel_rfl) (by kernel_rfl) a0)⟩
 ·cases hg
def stO(o:Zj):YD:=⟨o.f1,o.f2,o.f3,o.f4⟩
variable{c:Bool}
theorem Jg{x y:Bool}(hy:y=ze)(h:(bif c then x else y)=za):c=ze/\x=za:=by
 cases c
 ·rw[hy]at h;cases h
 ·exact⟨rfl,h⟩
theorem Zgp{step:Nat->(Int->Bool)×(Int->Int)->(Int->Bool)×(Int->Int)}{ids vals:Nat->Int}(hs:∀k z,step k z=((λj=>bif j==ids k then ze else z.1 j),(λj=>bif j==ids k then vals k else z.2 j))){z0:(Int->Bool)×(Int->Int)}(h0:∀x,z0.1 x=za) :
  ∀n,(∀x,(ZQ z0 step n).1 x=ze->∃k,k<n/\ids k=x/\(ZQ z0 step n).2 x=vals k)/\∀k,k<n->(ZQ z0 step n).1 (ids k)=ze:=by
 intro n
 induction n with
 |zero=>exact⟨λx hx=>(by rw[show ZQ z0 step 0=z0 from rfl,h0]at hx;cases hx),λk hk=>absurd hk (yB _)⟩
 |succ n ih=>
  rw[ZaC,hs]
  generalize ZQ z0 step n=z at ih⊢
  refine⟨λx hx=>?_,λk hk=>?_⟩
  ·have hx:(bif x==ids n then ze else z.1 x)=ze:=hx
   show ∃k,k<n+1/\ids k=x/\(bif x==ids n then vals n else z.2 x)=vals k
   cases e:(x==ids n)with
   |true=>exact⟨n,by omega,(eqT e).symm,rfl⟩
   |false=>
    rw[e]at hx
    obtain⟨k,h1,h2,h3⟩:=ih.1 x hx
    exact⟨k,by omega,h2,h3⟩
  ·show(bif ids k==ids n then ze else z.1 (ids k))=ze
   cases e:(ids k==ids n)with
   |true=>rfl
   |false=>
    rcases yE (Nat.le_of_lt_succ hk)with h|h
    ·subst h;simp at e
    ·exact ih.2 k h
theorem ow1_id(d:Zf)(k:Nat)(h:UM d k=za):(d.a.r6 k).f0=(d.a.r4 k).f0:=eqT (Jg rfl h).1
variable{a:Za}
theorem Zbb(h:ZK a=0):∀j,j<a.n6->(a.r6 j).f0=(a.r4 j).f0:=λj hj=>
 ow1_id (Zh a) j (XI (nf4 (fT (fT (WO h).2.2.1).2).1) j hj)
variable{k:Nat}
theorem rv_step{r:Nat->ZJ}(hk:k<=100000)(h:Zg8 n r k=za):(r k).f0<(r (k+1)).f0:=by
 have h1:=of_decide_eq_false (nf4 (nf4 (nf4 h)))
 have e1:zi (zy zq ((k:Int)+(1:Int)-(1:Int)))=k:=by
  rw[IntWalk.i64_in _ ⟨by omega,by omega⟩];omega
 have e2:zi ((k:Int)+(1:Int))=k+1:=by omega
 rw[e1,e2]at h1
 omega
theorem ZiI(h:ZK a=0)(hs:a.n4<=1000):∀i j,i<j->j<a.n6->(a.r6 i).f0<(a.r6 j).f0:=by
 have h1:=(WO h).1
 have h2:Wu ⟨a.n3,a.r3,a.n4,a.r4⟩=0:=(ZbB h1).1
 have h3:Zcx a.n4 (λj=>Yk (Zn za (a.r4 j)))=ze:=nT (orF (nf4 (zF (by decide) h2).1)).2
 have h4:=XI (nf4 (fT h3).1)
 have h64:=(ZcW h).1
 have st:∀k,k+1<a.n4->(a.r4 k).f0<(a.r4 (k+1)).f0:=λk hk=>rv_step (n:=a.n4) (r:=λj=>Yk (Zn za (a.r4 j))) (by omega) (h4 k (by omega))
 intro i j hij hj
 rw[Zbb h i (by omega),Zbb h j hj]
 rw[h64]at hj
 induction j with
 |zero=>omega
 |succ j ih=>
  have hs:=st j hj
  rcases yE (Nat.le_of_lt_succ hij)with e|e
  ·rw[e];exact hs
  ·have:=ih e (by omega);omega
variable{i j:Nat}
theorem fine_inj(h:ZK a=0)(hs:a.n4<=1000)(hi:i<a.n6)(hj:j<a.n6)(e:(a.r6 i).f0=(a.r6 j).f0):i=j:=by
 rcases Nat.lt_trichotomy i j with h1|h1|h1
 ·have:=ZiI h hs i j h1 hj;omega
 ·exact h1
 ·have:=ZiI h hs j i h1 hi;omega
theorem ZlM(a:Za):(∀x,(Zh a).oh x=ze->∃k,k<a.n6/\(a.r6 k).f0=x/\(Zh a).og x=((k:Nat):Int))/\∀k,k<a.n6->(Zh a).oh (a.r6 k).f0=ze:=
 Zgp (step:=Zad a) (ids:=λk=>(a.r6 k).f0) (vals:=λk=>((k:Nat):Int)) (λk z=>rfl) (λx=>rfl) a.n6
theorem Zgn(a:Za):(∀x,(Zh a).nh x=ze->∃k,k<a.n12/\(a.r12 k).f0=x/\(Zh a).ng x=(a.r12 k).f1)/\∀k,k<a.n12->(Zh a).nh (a.r12 k).f0=ze:=
 Zgp (step:=ZlI a) (ids:=λk=>(a.r12 k).f0) (vals:=λk=>(a.r12 k).f1) (λk z=>rfl) (λx=>rfl) a.n12
theorem stepE{T:Type}{x y:Bool}{z w:T}(h:(bif c then(bif x then ze else za)else(bif y then ze else za))=za):(bif c then(bif x then z else w)else(bif y then z else w))=w:=by
 cases c<;>cases x<;>cases y<;>first|rfl|cases h
theorem UO(d:Zf)(k:Nat)(h:KC d k=za):Qe d k<(d.a.r12 k).f1/\Qe d (k+1)=(d.a.r12 k).f1/\(bif d.nh (d.a.r12 k).f0 then d.ng (d.a.r12 k).f0 else 0)=(d.a.r12 k).f1/\d.oh (d.a.r12 k).f0=ze/\Q5 (stO (d.a.r6 (Js d (d.a.r12 k).f0).toNat))=ze:=by
 have c0:=(orF h).1
 have h1:=(orF h).2
 have c1:=(orF h1).1
 have h2:=(orF h1).2
 have c2:=(orF h2).1
 have h3:=(orF h2).2
 have c3:=(orF h3).1
 have h4:=(orF h3).2
 have c4:=(orF h4).1
 have h5:=(orF h4).2
 refine⟨?_,?_,?_,nT (nf4 c2),?_⟩
 ·have h6:¬(d.a.r12 k).f1<=Qe d k:=of_decide_eq_false c0
  omega
 ·exact cF c0 (cF c1 (cF c2 (cF c3 (cF c4 (stepE h5)))))
 ·rw[bne]at c1
  exact eqT (nT c1)
 ·refine Eq.trans ?_ (nT c3)
  kernel_rfl
theorem Ut(h:ZK a=0):∀k,k<a.n12->KC (Zh a) k=za:=XI (nf4 (fT (WO h).2.2.2.2.2).1)
theorem Zjr(h:ZK a=0):∀k,k<=a.n12->-1<=Qe (Zh a) k/\∀i,i<k->(a.r12 i).f1<=Qe (Zh a) k/\0<=(a.r12 i).f1:=by
 intro k
 induction k with
 |zero=>intro _;exact⟨Int.le_refl _,λi hi=>absurd hi (yB _)⟩
 |succ k ih=>
  intro hk
  have ih:=ih (by omega)
  have hp:=UO (Zh a) k (Ut h k (by omega))
  have e:Qe (Zh a) (k+1)=(a.r12 k).f1:=hp.2.1
  have hl:Qe (Zh a) k<(a.r12 k).f1:=hp.1
  rw[e]
  refine⟨by omega,λi hi=>?_⟩
  rcases yE (Nat.le_of_lt_succ hi)with e2|e2
  ·subst e2;exact⟨Int.le_refl _,by omega⟩
  ·have:=ih.2 i e2;exact⟨by omega,this.2⟩
theorem put_lt(h:ZK a=0)(hij:i<j)(hj:j<a.n12):(a.r12 i).f1<(a.r12 j).f1:=by
 have h1:=((Zjr h j (by omega)).2 i hij).1
 have h2:Qe (Zh a) j<(a.r12 j).f1:=(UO (Zh a) j (Ut h j hj)).1
 omega
theorem cmpI_lt(a b:Int):decide (X3 a b<0)=decide (a<b):=by
 unfold X3
 by_cases h1:a<b
 ·simp[h1]
 ·by_cases h2:a>b<;>simp[h1,h2]
variable{b:Int}
theorem cmpI_eq{a:Int}(h:a=b):(X3 a b==0)=ze:=by
 subst h
 unfold X3
 simp
theorem cmpI_ne{a:Int}(h:(X3 a b==0)=ze):a=b:=by
 unfold X3 at h
 by_cases h1:a<b
 ·simp[h1]at h
 ·by_cases h2:a>b
  ·simp[h1,h2]at h
  ·omega
variable{x:Int}
theorem Zj8{g:Nat->Int}{lt:Nat->Bool}(hl:∀k,k<n->lt k=decide (g k<x))(hr:∀i k,i<k->k<n->g i<g k)(hj:j<n)(e:g j=x):XB lt n 0 n=j:=by
 obtain⟨_,h2,h3,h4⟩:=ZnK (lt:=lt) (n:=n) n 0 n (by omega) (Nat.zero_le _) (zJ _) (λk hk=>absurd hk (yB _)) (λk h1 h2=>absurd h2 (by omega)) (λk l hkl hln hl2=>by
  rw[hl k (by omega)]
  rw[hl l hln]at hl2
  have h5:=of_decide_eq_true hl2
  rcases yE hkl with h6|h6
  ·subst h6;exact hl2
  ·have:=hr k l h6 hln;exact decide_eq_true (by omega))
 generalize XB lt n 0 n=m at*
 rcases Nat.lt_trichotomy m j with h|h|h
 ·have h5:=h4 m (zJ _) (by omega)
  rw[hl m (by omega)]at h5
  have:=of_decide_eq_false h5
  have:=hr m j h hj
  omega
 ·exact h
 ·have h5:=h3 j h
  rw[hl j hj]at h5
  have:=of_decide_eq_true h5
  omega
theorem plV_find{r:Nat->ZJ}(hr:∀i k,i<k->k<n->(r i).f0<(r k).f0)(hj:j<n)(e:(r j).f0=x):QO n r x=ze/\Qk n r x=(j:Int):=by
 have h:JM n r x=j:=Zj8 (g:=λk=>(r k).f0) (λk _=>cmpI_lt _ _) hr hj e
 have h2:decide (((j:Nat):Int)<(n:Int))=ze:=decide_eq_true (by omega)
 refine⟨?_,?_⟩
 ·unfold QO;rw[h,h2];exact cmpI_eq e
 ·unfold Qk;rw[h,h2];rfl
def guO(a:Za):Ze:=⟨a.n3,a.r3,a.n4,a.r4⟩
def gaO(a:Za):Zd:=⟨a.n5,a.r5⟩
section
variable{a:Za}(h:ZK a=0)
include h
theorem ZiG:Wu (guO a)=0:=(ZbB (WO h).1).1
theorem Kr:Wv (gaO a)=0:=(ZbB (WO h).1).2.1
theorem ZiK(hs:a.n4<=1000):∀i j,i<j->j<a.n4->(a.r4 i).f0<(a.r4 j).f0:=λi j hij hj=>by
 have h64:=(ZcW h).1
 rw[<- Zbb h i (by omega),<- Zbb h j (by omega)]
 exact ZiI h hs i j hij (by omega)
theorem ZiJ(hs:a.n3<=1000):∀i j,i<j->j<a.n3->(a.r3 i).f0<(a.r3 j).f0:=by
 have h3:Za1 a.n3 (λj=>YT (Zr za (a.r3 j)))=ze:=nT (orF (nf4 (zF (by decide) (ZiG h)).1)).1
 have h4:=XI (nf4 (fT h3).1)
 have st:∀k,k+1<a.n3->(a.r3 k).f0<(a.r3 (k+1)).f0:=λk hk=>by
  have e:Zg3 a.n3 (λj=>YT (Zr za (a.r3 j))) k=(bif (bif (bif decide ((a.r3 (zi (zy .i64 ((k:Int)+(1:Int)-(1:Int))))).f0>=(a.r3 (zi ((k:Int)+(1:Int)))).f0)then ze else za)then ze else za)then ze else za):=by kernel_rfl
  have h5:=h4 k (by omega)
  rw[e]at h5
  have h1:=of_decide_eq_false (nf4 (nf4 (nf4 h5)))
  have e1:zi (zy zq ((k:Int)+(1:Int)-(1:Int)))=k:=by
   rw[IntWalk.i64_in _ ⟨by omega,by omega⟩];omega
  have e2:zi ((k:Int)+(1:Int))=k+1:=by omega
  rw[e1,e2]at h1
  omega
 intro i j hij hj
 induction j with
 |zero=>omega
 |succ j ih=>
  have hs:=st j hj
  rcases yE (Nat.le_of_lt_succ hij)with e|e
  ·rw[e];exact hs
  ·have:=ih e (by omega);omega
theorem fine_dom{j:Nat}(hj:j<a.n4):∃i,i<a.n3/\(a.r3 i).f0=(a.r4 j).f1:=by
 have h2:=XI (nf4 (zF (by decide) (zF (by decide) (zF (by decide) (ZiG h)).2).2).1) j hj
 have h3:Gw a.n3 (λj=>YT (Zr za (a.r3 j))) (a.r4 j).f1=ze:=nT (orF (orF (orF (nf4 (nf4 (nf4 h2)))).2).2).2
 have hf:=Zii a.n3 (λj=>YT (Zr za (a.r3 j))) (a.r4 j).f1
 have h4:=hf.2.2 h3
 refine⟨Qw a.n3 a.r3 (a.r4 j).f1,?_,?_⟩
 ·have e:VG a.n3 (λj=>YT (Zr za (a.r3 j))) (a.r4 j).f1=(Qw a.n3 a.r3 (a.r4 j).f1:Int):=by
   unfold VG;cases decide (((Qw a.n3 (λj=>YT (Zr za (a.r3 j))) (a.r4 j).f1:Nat):Int)<(a.n3:Int))<;>rfl
  omega
 ·have h5:(bif decide (((Qw a.n3 a.r3 (a.r4 j).f1:Nat):Int)<(a.n3:Int))then X3 (a.r3 (zi ((Qw a.n3 a.r3 (a.r4 j).f1:Nat):Int))).f0 (a.r4 j).f1==(0:Int)else za)=ze:=h3
  exact cmpI_ne (Xc h5).2
theorem dVcpu_at(hs:a.n4<=1000){j:Nat}(hj:j<a.n4):Za2 (guO a) (a.r4 j).f0=(a.r4 j).f0/\Gx (guO a) (a.r4 j).f0=(a.r4 j).f1/\X4 (guO a) (a.r4 j).f0=(a.r4 j).f2:=by
 have hp:QO a.n4 (λj=>Yk (Zn za (a.r4 j))) (a.r4 j).f0=ze/\Qk a.n4 (λj=>Yk (Zn za (a.r4 j))) (a.r4 j).f0=(j:Int):=plV_find (ZiK h hs) hj rfl
 have hc:(Wu (ZH (zf (zl za 4 a.n3 λj=>Zr za (a.r3 j)) (zf (zl za 4 a.n4 λj=>Zn za (a.r4 j)) zh))) != (0:Int))=za:=by
  rw[show Wu (ZH (zf (zl za 4 a.n3 λj=>Zr za (a.r3 j)) (zf (zl za 4 a.n4 λj=>Zn za (a.r4 j)) zh)))=0 from ZiG h];rfl
 have hc2:(bif (bif !QO a.n4 (λj=>Yk (Zn za (a.r4 j))) (a.r4 j).f0 then ze else Wu (ZH (zf (zl za 4 a.n3 λj=>Zr za (a.r3 j)) (zf (zl za 4 a.n4 λj=>Zn za (a.r4 j)) zh))) != (0:Int))then ze else za)=za:=by rw[hp.1,hc];rfl
 have e:∀(g:ZJ->Int),(bif (bif (bif !QO a.n4 (λj=>Yk (Zn za (a.r4 j))) (a.r4 j).f0 then ze else Wu (ZH (zf (zl za 4 a.n3 λj=>Zr za (a.r3 j)) (zf (zl za 4 a.n4 λj=>Zn za (a.r4 j)) zh))) != (0:Int))then ze else za)then(0:Int)else g (a.r4 (zi (Qk a.n4 (λj=>Yk (Zn za (a.r4 j))) (a.r4 j).f0))))=g (a.r4 j):=λg=>by
  rw[hc2,hp.2];rfl
 exact⟨e ZJ.f0,e ZJ.f1,e ZJ.f2⟩
end
theorem ixDom_eq(y:ZJ)(an:Nat)(a:Nat->Z6):VQ y an a=bif Zv (J8 an a y) an then((Yc (J8 an a y) an 0:Nat):Int)else -1:=by
 unfold VQ ZiU
 show V.toInt (bif (bif Zv (J8 an a y) an then ze else za)then _ else _)=_
 cases Zv (J8 an a y) an<;>rfl
theorem ixDom_at{y:ZJ}{r:Nat->Z6}(hr:∀i k,i<k->k<n->(r i).f0<(r k).f0)(hi:i<n)(e:(r i).f0=y.f1):VQ y n r=(i:Int):=by
 have hb:∀k,J8 n r y k=((r k).f0==y.f1):=λk=>by
  show(bif (bif (bif (r k).f0==y.f1 then ze else za)then ze else za)then ze else za)=_
  cases(r k).f0==y.f1<;>rfl
 have hi2:J8 n r y i=ze:=by rw[hb,e];simp
 have ha:Zv (J8 n r y) n=ze:=by
  cases h:Zv (J8 n r y) n
  ·rw[XI h i hi]at hi2;cases hi2
  ·rfl
 rw[ixDom_eq,ha]
 have hf:=ZfY ha
 generalize Yc (J8 n r y) n 0=m at hf⊢
 have e2:=eqT (hb m▸hf.2.1)
 rcases Nat.lt_trichotomy m i with h|h|h
 ·have:=hr m i h hi;omega
 ·subst h;rfl
 ·have:=hr i m h hf.1;omega
theorem ZlL(a:Za):(∀x,(Xn a a.n3).1 x=ze->∃k,k<a.n3/\(a.r3 k).f0=x/\(Xn a a.n3).2 x=((k:Nat):Int))/\∀k,k<a.n3->(Xn a a.n3).1 (a.r3 k).f0=ze:=
 Zgp (step:=Zdk a) (ids:=λk=>(a.r3 k).f0) (vals:=λk=>((k:Nat):Int)) (λk z=>rfl) (λx=>rfl) a.n3
theorem Zi7(a:Za):(∀x,(Zh a).hh x=ze->∃k,k<a.n4/\(a.r4 k).f0=x/\(Zh a).hg x=bif (Xn a a.n3).1 (a.r4 k).f1 then(Xn a a.n3).2 (a.r4 k).f1 else 0)/\∀k,k<a.n4->(Zh a).hh (a.r4 k).f0=ze:=
 Zgp (step:=Zdm a) (ids:=λk=>(a.r4 k).f0) (vals:=λk=>bif (Xn a a.n3).1 (a.r4 k).f1 then(Xn a a.n3).2 (a.r4 k).f1 else 0) (λk z=>rfl) (λx=>rfl) a.n4
theorem ZiT(h:ZK a=0)(h3:a.n3<=1000)(h4:a.n4<=1000)(hj:j<a.n4):∃i,i<a.n3/\(a.r3 i).f0=(a.r4 j).f1/\Zk (guO a) (a.r4 j).f0=(i:Int)/\Xy (Zh a) (a.r4 j).f0=(i:Int)/\0<=(a.r3 i).f3/\(a.r3 i).f3<a.n2:=by
 obtain⟨i,hi,he⟩:=fine_dom h hj
 have hp:=ZcY h i hi
 refine⟨i,hi,he,?_,?_,hp.1,hp.2⟩
 ·have hv:=dVcpu_at h h4 hj
  show VQ (Yk (zf (zn za .i64 (Za2 (guO a) (a.r4 j).f0)) (zf (zn za .i64 (Gx (guO a) (a.r4 j).f0)) (zf (zn za .u32 (X4 (guO a) (a.r4 j).f0)) (zf (zn za .u32 (Zcy (guO a) (a.r4 j).f0)) zh))))) a.n3 a.r3=_
  refine ixDom_at (ZiJ h h3) hi ?_
  show(a.r3 i).f0=Gx (guO a) (a.r4 j).f0
  rw[hv.2.1,he]
 ·unfold Xy
  rw[(Zi7 a).2 j hj]
  obtain⟨k,hk,ek,ev⟩:=(Zi7 a).1 _ ((Zi7 a).2 j hj)
  have hjk:k=j:=by
   rcases Nat.lt_trichotomy k j with q|q|q
   ·have:=ZiK h h4 k j q hj;omega
   ·exact q
   ·have:=ZiK h h4 j k q hk;omega
  subst hjk
  show(Zh a).hg (a.r4 k).f0=_
  have h1:=(ZlL a).2 i hi
  rw[he]at h1
  obtain⟨l,hl,el,vl⟩:=(ZlL a).1 _ h1
  have hil:l=i:=by
   rcases Nat.lt_trichotomy l i with q|q|q
   ·have:=ZiJ h h3 l i q hi;omega
   ·exact q
   ·have:=ZiJ h h3 i l q hl;omega
  rw[ev,h1,vl,hil];rfl
variable{m:Nat}
theorem Zjn{D:Type}{F:Nat->D}{r0:Nat->D}{step:Nat->Nat×(Nat->D)->Nat×(Nat->D)}(hs:∀k z,k<m->step k z=(z.1+1,λjj=>bif zo jj z.1 then F k else z.2 jj)):∀n,n<=m->(ZQ (0,r0) step n).1=n/\∀j,j<n->(ZQ (0,r0) step n).2 j=F j:=by
 intro n
 induction n with
 |zero=>intro _;exact⟨rfl,λj hj=>absurd hj (yB _)⟩
 |succ n ih=>
  intro hn
  have ih:=ih (by omega)
  rw[ZaC,hs _ _ (by omega)]
  generalize ZQ (0,r0) step n=z at ih⊢
  refine⟨by show z.1+1=n+1;rw[ih.1],λj hj=>?_⟩
  show(bif zo j z.1 then F n else z.2 j)=F j
  rw[ih.1]
  rcases yE (Nat.le_of_lt_succ hj)with e|e
  ·subst e;rw[Nat.beq_refl];rfl
  ·have hb:zo j n=za:=by
    cases hb:zo j n
    ·rfl
    ·have:=zP hb;omega
   rw[hb];exact ih.2 j e
def takeN(n:Nat)(a:Nat->Zq)(j:Nat):Zq:=bif zG j n then a j else⟨0⟩
theorem may0_take(LN:Int->Nat)(LI:Int->Nat->DT3)(a:Nat->Zq):Zgq LN LI a=Zgq LN LI (takeN 0 a):=by kernel_rfl
theorem may1_take(LN:Int->Nat)(LI:Int->Nat->DT3)(GM:Zc->Bool)(a:Nat->Zq):Zgr LN LI GM a=Zgr LN LI GM (takeN 1 a):=by kernel_rfl
theorem may2_take(LN:Int->Nat)(LI:Int->Nat->DT3)(GM:Zc->Zc->Bool)(a:Nat->Zq):Zgs LN LI GM a=Zgs LN LI GM (takeN 2 a):=by kernel_rfl
theorem may3_take(LN:Int->Nat)(LI:Int->Nat->DT3)(GM:Zc->Zc->Zc->Bool)(a:Nat->Zq):Zgt LN LI GM a=Zgt LN LI GM (takeN 3 a):=by kernel_rfl
theorem may4_take(LN:Int->Nat)(LI:Int->Nat->DT3)(GM:Zc->Zc->Zc->Zc->Bool)(a:Nat->Zq):Zgu LN LI GM a=Zgu LN LI GM (takeN 4 a):=by kernel_rfl
theorem may5_take(LN:Int->Nat)(LI:Int->Nat->DT3)(GM:Zc->Zc->Zc->Zc->Zc->Bool)(a:Nat->Zq):Zgv LN LI GM a=Zgv LN LI GM (takeN 5 a):=by kernel_rfl
theorem may6_take(LN:Int->Nat)(LI:Int->Nat->DT3)(GM:Zc->Zc->Zc->Zc->Zc->Zc->Bool)(a:Nat->Zq):Zgw LN LI GM a=Zgw LN LI GM (takeN 6 a):=by kernel_rfl
theorem may7_take(LN:Int->Nat)(LI:Int->Nat->DT3)(GM:Zc->Zc->Zc->Zc->Zc->Zc->Zc->Bool)(a:Nat->Zq):Zgx LN LI GM a=Zgx LN LI GM (takeN 7 a):=by kernel_rfl
theorem may8_take(LN:Int->Nat)(LI:Int->Nat->DT3)(GM:Zc->Zc->Zc->Zc->Zc->Zc->Zc->Zc->Bool)(a:Nat->Zq):Zgy LN LI GM a=Zgy LN LI GM (takeN 8 a):=by kernel_rfl
theorem Zlf(n:Nat)(a:Nat->Zq):Ql n a=Ql n (takeN n a):=by
 match n with
 |0=>exact(may0_take (λs=>Xo s.toNat) (λs=>Xh s.toNat) a:may0 a=may0 (takeN 0 a))
 |1=>exact(may1_take (λs=>Xo s.toNat) (λs=>Xh s.toNat) (λe0=>Xf 1 (row1 e0)) a:may1 a=may1 (takeN 1 a))
 |2=>exact(may2_take (λs=>Xo s.toNat) (λs=>Xh s.toNat) (λe0 e1=>Xf 2 (J5 e0 e1)) a:may2 a=may2 (takeN 2 a))
 |3=>exact(may3_take (λs=>Xo s.toNat) (λs=>Xh s.toNat) (λe0 e1 e2=>Xf 3 (row3 e0 e1 e2)) a:may3 a=may3 (takeN 3 a))
 |4=>exact(may4_take (λs=>Xo s.toNat) (λs=>Xh s.toNat) (λe0 e1 e2 e3=>Xf 4 (row4 e0 e1 e2 e3)) a:may4 a=may4 (takeN 4 a))
 |5=>exact(may5_take (λs=>Xo s.toNat) (λs=>Xh s.toNat) (λe0 e1 e2 e3 e4=>Xf 5 (row5 e0 e1 e2 e3 e4)) a:may5 a=may5 (takeN 5 a))
 |6=>exact(may6_take (λs=>Xo s.toNat) (λs=>Xh s.toNat) (λe0 e1 e2 e3 e4 e5=>Xf 6 (row6 e0 e1 e2 e3 e4 e5)) a:may6 a=may6 (takeN 6 a))
 |7=>exact(may7_take (λs=>Xo s.toNat) (λs=>Xh s.toNat) (λe0 e1 e2 e3 e4 e5 e6=>Xf 7 (row7 e0 e1 e2 e3 e4 e5 e6)) a:may7 a=may7 (takeN 7 a))
 |8=>exact(may8_take (λs=>Xo s.toNat) (λs=>Xh s.toNat) (λe0 e1 e2 e3 e4 e5 e6 e7=>Xf 8 (row8 e0 e1 e2 e3 e4 e5 e6 e7)) a:may8 a=may8 (takeN 8 a))
 |_+9=>rfl
theorem Zf1{a b:Nat->Zq}(h:∀j,j<n->a j=b j):Ql n a=Ql n b:=by
 rw[Zlf n a,Zlf n b]
 congr 1
 funext j
 unfold takeN
 cases hj:zG j n
 ·rfl
 ·exact h j (by simpa[Nat.blt_eq]using hj)
def YX(x y:Int):Int:=zy .u32 ((yA (zU (zR .u32) x&&& zU (zR .u32) y):Nat):Int)
theorem Zif(p:Zg)(gu:Ze)(b:Int):Yb p gu b=YX (X4 gu b) (p.r0 (zi (gu.r0 (zi (Zk gu b))).f3)).f0:=by kernel_rfl
def JF(p:Zg)(a:Za)(j:Nat):Int:=Yb p (guO a) (a.r4 j).f0
section
variable{a:Za}(h:ZK a=0)(h3:a.n3<=1000)(h4:a.n4<=1000)
include h h3 h4
theorem Zag(p:Zg){j:Nat}(hj:j<a.n4):YX (X4 (guO a) (a.r4 j).f0) (p.r0 (zi (a.r3 (zi (Xy (Zh a) (a.r4 j).f0))).f3)).f0=JF p a j:=by
 obtain⟨i,hi,he,e1,e2,_⟩:=ZiT h h3 h4 hj
 unfold JF
 rw[Zif,e1,e2];rfl
omit h3 h4 in
theorem UN{b:Int}(hb:(Zh a).oh b=ze):∃j,j<a.n4/\(a.r4 j).f0=b:=by
 obtain⟨k,hk,e,_⟩:=(ZlM a).1 b hb
 exact⟨k,by rw[<- (ZcW h).1];exact hk,by rw[<- Zbb h k hk,e]⟩
end
theorem Zk9(h:ZK a=0):∀k,k<a.n5->Uw (Zh a) k=za:=XI (nf4 (fT (WO h).2.2.2.1).1)
def ga1_bad'(d:Zf)(k:Nat):Bool:=bif (bif Zv (VO d (d.a.r5 k).n1 (d.a.r5 k).r1) (d.a.r5 k).n1 then ze else za)then ze else(bif (bif !Ql (WJ d (d.a.r5 k).n1 (d.a.r5 k).r1 (d.a.r5 k).n1).1 (λj=>(WJ d (d.a.r5 k).n1 (d.a.r5 k).r1 (d.a.r5 k).n1).2 (0+j))then ze else za)then ze else za)
theorem ga1_eq(d:Zf)(k:Nat):Uw d k=ga1_bad' d k:=by kernel_rfl
variable{d:Zf}
theorem Zlm(h:Uw d k=za):(∀q,q<(d.a.r5 k).n1->VO d (d.a.r5 k).n1 (d.a.r5 k).r1 q=za)/\Ql (WJ d (d.a.r5 k).n1 (d.a.r5 k).r1 (d.a.r5 k).n1).1 (λj=>(WJ d (d.a.r5 k).n1 (d.a.r5 k).r1 (d.a.r5 k).n1).2 (0+j))=ze:=by
 rw[ga1_eq]at h
 have h1:=orF h
 exact⟨XI (nf4 h1.1),nT (nf4 (nf4 h1.2))⟩
theorem ga2_parts{r:Nat->DT3}(h:VO d m r k=za):d.oh (r k).f0=ze/\Xy d (r k).f0=Xy d (r 0).f0:=by
 have h1:=orF h
 have h2:((bif d.hh (r (zi (k:Int))).f0 then d.hg (r (zi (k:Int))).f0 else(0:Int)) != bif d.hh (r (zi (0:Int))).f0 then d.hg (r (zi (0:Int))).f0 else(0:Int))=za:=nf4 (nf4 h1.2)
 rw[bne]at h2
 exact⟨nT (nf4 h1.1),eqT (nT h2)⟩
theorem ga2_none{r:Nat->DT3}(h1:d.oh (r k).f0=ze)(h2:Xy d (r k).f0=Xy d (r 0).f0):VO d m r k=za:=by
 have e1:(bif !d.oh (r (zi (k:Int))).f0 then ze else za)=za:=by
  show(bif !d.oh (r k).f0 then ze else za)=za
  rw[h1];rfl
 have e2:((bif d.hh (r (zi (k:Int))).f0 then d.hg (r (zi (k:Int))).f0 else(0:Int)) != bif d.hh (r (zi (0:Int))).f0 then d.hg (r (zi (0:Int))).f0 else(0:Int))=za:=by
  show(Xy d (r k).f0 != Xy d (r 0).f0)=za
  rw[h2];simp
 show(bif (bif !d.oh (r (zi (k:Int))).f0 then ze else za)then ze else(bif (bif ((bif d.hh (r (zi (k:Int))).f0 then d.hg (r (zi (k:Int))).f0 else(0:Int)) != bif d.hh (r (zi (0:Int))).f0 then d.hg (r (zi (0:Int))).f0 else(0:Int))then ze else za)then ze else za))=za
 rw[e1,e2];rfl
theorem Zli{r:Nat->DT3}(h:∀q,q<m->VO d m r q=za):(WJ d m r m).1=m/\∀j,j<m->(WJ d m r m).2 j=⟨YX (X4 (guO d.a) (r j).f0) (d.a.r2 (zi (d.a.r3 (zi (Xy d (r j).f0))).f3)).f0⟩:=by
 refine Zjn (F:=λj=>⟨YX (X4 (guO d.a) (r j).f0) (d.a.r2 (zi (d.a.r3 (zi (Xy d (r j).f0))).f3)).f0⟩) (step:=Zbe d m r) (m:=m) (λk z hk=>?_) m (zJ _)
 have hp:=orF (h k hk)
 have c1:=hp.1
 have c2:=nf4 hp.2
 refine cF c1 (cF c2 ?_)
 refine Prod.ext rfl (funext λjj=>?_)
 show Yq (bif zo jj (z.1+0)then _ else _)=bif zo jj z.1 then _ else _
 rw[Nat.add_zero]
 cases zo jj z.1<;>rfl
abbrev bv(x:Int):BitVec 32:=zU 32 x
abbrev bt(x:Int)(i:Nat):Bool:=(bv x).getLsbD i
def inU(x:Int):Prop:=0<=x/\x<4294967296
theorem ZjJ(x:BitVec 32):zy .u32 (x.toNat:Int)=(x.toNat:Int):=by
 show(x.toNat:Int)%4294967296=x.toNat
 have:=x.isLt
 omega
theorem bv_nat(x:BitVec 32):bv ((x.toNat:Nat):Int)=x:=by
 show zU 32 ((x.toNat:Nat):Int)=x
 rw[BitVec.ofInt_natCast,BitVec.ofNat_toNat,BitVec.setWidth_eq]
theorem bv_in(h:inU x):((bv x).toNat:Int)=x:=by
 show((zU 32 x).toNat:Int)=x
 rw[BitVec.toNat_ofInt]
 have:=h.1;have:=h.2
 omega
variable{y:Int}
theorem Ze5(hx:inU x)(hy:inU y)(h:∀i,i<32->bt x i=bt y i):x=y:=by
 rw[<- bv_in hx,<- bv_in hy,BitVec.eq_of_getLsbD_eq h]
def or2(x y:Int):Int:=zy .u32 ((yA (zU (zR .u32) x|||BitVec.ofInt (zR .u32) y):Nat):Int)
def Qh(x y:Int):Int:=zy .u32 ((yA (zU (zR .u32) x&&& ~~~zU (zR .u32) y):Nat):Int)
theorem ZlW(x y:Int):YX x y=((bv x&&& bv y).toNat:Int):=ZjJ _
theorem or2_bv(x y:Int):or2 x y=((bv x|||bv y).toNat:Int):=ZjJ _
theorem andn_bv(x y:Int):Qh x y=((bv x&&& ~~~bv y).toNat:Int):=ZjJ _
theorem bv_U(x:BitVec 32):inU (x.toNat:Int):=by have:=x.isLt;exact⟨by omega,by omega⟩
theorem Zcn(x y:Int)(i:Nat):bt (YX x y) i=(bt x i&&bt y i):=by
 show(bv (YX x y)).getLsbD i=_
 rw[ZlW,bv_nat,BitVec.getLsbD_and]
theorem bt_or(x y:Int)(i:Nat):bt (or2 x y) i=(bt x i||bt y i):=by
 show(bv (or2 x y)).getLsbD i=_
 rw[or2_bv,bv_nat,BitVec.getLsbD_or]
theorem ZaG(x y:Int)(hi:i<32):bt (Qh x y) i=(bt x i&&!bt y i):=by
 show(bv (Qh x y)).getLsbD i=_
 rw[andn_bv,bv_nat,BitVec.getLsbD_and,BitVec.getLsbD_not]
 simp[hi]
theorem Ze4(i:Nat):bt 0 i=za:=by
 show(zU 32 0).getLsbD i=za
 simp
theorem z_iff(h:inU x):x=0↔∀i,i<32->bt x i=za:=
 ⟨λe i _=>by rw[e];exact Ze4 i,λhb=>Ze5 h ⟨by omega,by omega⟩ λi hi=>by rw[hb i hi,Ze4]⟩
theorem mask_U(x y:Int):inU (YX x y):=by rw[ZlW];exact bv_U _
theorem or_U(x y:Int):inU (or2 x y):=by rw[or2_bv];exact bv_U _
theorem andn_U(x y:Int):inU (Qh x y):=by rw[andn_bv];exact bv_U _
theorem mask0:YX x y=0↔∀i,i<32->(bt x i&&bt y i)=za:=by
 rw[z_iff (mask_U x y)]
 exact⟨λh i hi=>by rw[<- Zcn];exact h i hi,λh i hi=>by rw[Zcn];exact h i hi⟩
theorem U6:Qh x y=0↔∀i,i<32->(bt x i&&!bt y i)=za:=by
 rw[z_iff (andn_U x y)]
 exact⟨λh i hi=>by rw[<- ZaG x y hi];exact h i hi,λh i hi=>by rw[ZaG x y hi];exact h i hi⟩
def X0(r:Nat->Zq)(k:Nat):Int:=Nat.rec 0 (λk a=>or2 a (r k).f0) k
def okA(x a:Int):Bool:=bif x != (0:Int)then(bif (bif Qh x 255 != (0:Int)then ze else za)then za else YX x a==(0:Int))else za
def okP(r:Nat->Zq)(k:Nat):Bool:=Nat.rec ze (λk o=>bif o then okA (r k).f0 (X0 r k)else za) k
def JQ(n:Nat)(r:Nat->Zq):Int:=bif (bif (bif !okP r n then ze else YX (X0 r n) (zy .u32 (X0 r n+1)) != (0:Int))then ze else za)then 180 else 0
theorem ZqQ(r:Nat->Zq):V.toInt (Wo ⟨1,r⟩)=JQ 1 r:=by kernel_rfl
theorem ZqR(r:Nat->Zq):V.toInt (Wo ⟨2,r⟩)=JQ 2 r:=by kernel_rfl
theorem ZqS(r:Nat->Zq):V.toInt (Wo ⟨3,r⟩)=JQ 3 r:=by kernel_rfl
theorem ZqT(r:Nat->Zq):V.toInt (Wo ⟨4,r⟩)=JQ 4 r:=by kernel_rfl
theorem ZgS(r:Nat->Zq)(h:0<n)(h4:n<=4):V.toInt (Wo ⟨n,r⟩)=JQ n r:=by
 obtain e|e|e|e:n=1\/n=2\/n=3\/n=4:=by omega
 ·subst e;exact ZqQ r
 ·subst e;exact ZqR r
 ·subst e;exact ZqS r
 ·subst e;exact ZqT r
theorem ZqU(r:Nat->Zq):V.toInt (Wo ⟨5,r⟩)=180:=by kernel_rfl
def cpsP(n:Nat)(r:Nat->Zq):Int:=bif (bif JQ n r != (0:Int)then ze else za)then 0 else X0 r n
theorem pCpus_at1(r:Nat->Zq):V.toInt (WA ⟨1,r⟩)=cpsP 1 r:=by kernel_rfl
theorem pCpus_at2(r:Nat->Zq):V.toInt (WA ⟨2,r⟩)=cpsP 2 r:=by kernel_rfl
theorem pCpus_at3(r:Nat->Zq):V.toInt (WA ⟨3,r⟩)=cpsP 3 r:=by kernel_rfl
theorem pCpus_at4(r:Nat->Zq):V.toInt (WA ⟨4,r⟩)=cpsP 4 r:=by kernel_rfl
theorem ZgT(r:Nat->Zq)(h:0<n)(h4:n<=4):V.toInt (WA ⟨n,r⟩)=cpsP n r:=by
 obtain e|e|e|e:n=1\/n=2\/n=3\/n=4:=by omega
 ·subst e;exact pCpus_at1 r
 ·subst e;exact pCpus_at2 r
 ·subst e;exact pCpus_at3 r
 ·subst e;exact pCpus_at4 r
theorem Zes(r:Nat->Zq)(i:Nat):∀k,bt (X0 r k) i=ze↔∃j,j<k/\bt (r j).f0 i=ze:=by
 intro k
 induction k with
 |zero=>exact⟨λh=>(by rw[show X0 r 0=0 from rfl,Ze4]at h;cases h),λ⟨j,hj,_⟩=>absurd hj (yB _)⟩
 |succ k ih=>
  rw[show X0 r (k+1)=or2 (X0 r k) (r k).f0 from rfl,bt_or,Bool.or_eq_true,ih]
  constructor
  ·rintro(⟨j,hj,h⟩|h)
   ·exact⟨j,by omega,h⟩
   ·exact⟨k,by omega,h⟩
  ·intro⟨j,hj,h⟩
   rcases yE (Nat.le_of_lt_succ hj)with e|e
   ·subst e;exact .inr h
   ·exact .inl ⟨j,e,h⟩
theorem allP_U(r:Nat->Zq):∀k,inU (X0 r k):=by
 intro k
 cases k with
 |zero=>exact⟨by show(0:Int)<=0;omega,by show(0:Int)<4294967296;omega⟩
 |succ k=>exact or_U _ _
theorem okA_iff{a:Int}:okA x a=ze↔x≠0/\Qh x 255=0/\YX x a=0:=by
 unfold okA
 constructor
 ·intro h
  have h1:=Xc h
  have h2:=fT h1.2
  refine⟨λe=>?_,?_,eqT h2.2⟩
  ·rw[e]at h1;simp at h1
  ·have:=nf4 h2.1
   rw[bne]at this
   exact eqT (nT this)
 ·intro⟨h1,h2,h3⟩
  have e1:(x != (0:Int))=ze:=by simp[h1]
  rw[e1,h2,h3];rfl
theorem okP_iff(r:Nat->Zq):∀n,okP r n=ze↔∀k,k<n->(r k).f0≠0/\Qh (r k).f0 255=0/\∀j,j<k->∀i,i<32->(bt (r j).f0 i&&bt (r k).f0 i)=za:=by
 intro n
 induction n with
 |zero=>exact⟨λ_ k hk=>absurd hk (yB _),λ_=>rfl⟩
 |succ n ih=>
  have hs:okP r (n+1)=bif okP r n then okA (r n).f0 (X0 r n)else za:=rfl
  rw[hs]
  constructor
  ·intro h k hk
   have h1:=Xc h
   rcases yE (Nat.le_of_lt_succ hk)with e|e
   ·subst e
    obtain⟨a1,a2,a3⟩:=okA_iff.1 h1.2
    refine⟨a1,a2,λj hj i hi=>?_⟩
    have h3:=mask0.1 a3 i hi
    cases hb:bt (r j).f0 i
    ·rfl
    ·have:=(Zes r i k).2 ⟨j,hj,hb⟩
     rw[this,Bool.and_true]at h3
     rw[h3];rfl
   ·exact ih.1 h1.1 k e
  ·intro h
   rw[ih.2 λk hk=>h k (by omega)]
   obtain⟨a1,a2,a3⟩:=h n (by omega)
   refine okA_iff.2 ⟨a1,a2,mask0.2 λi hi=>?_⟩
   cases hb:bt (X0 r n) i
   ·rw[Bool.and_false]
   ·obtain⟨j,hj,hjb⟩:=(Zes r i n).1 hb
    have:=a3 j hj i hi
    rw[hjb,Bool.true_and]at this
    rw[this];rfl
variable{r:Nat->Zq}
theorem ZkA:JQ n r=0↔okP r n=ze/\YX (X0 r n) (zy .u32 (X0 r n+1))=0:=by
 unfold JQ
 constructor
 ·intro h
  have h1:=orF (nf4 (zF (by decide) h).1)
  refine⟨nT h1.1,?_⟩
  have h2:=h1.2
  rw[bne]at h2
  exact eqT (nT h2)
 ·intro⟨h1,h2⟩
  rw[h1,h2];rfl
variable{r':Nat->Zq}
theorem ZhH(h:∀j,j<n->(r j).f0=(r' j).f0):X0 r n=X0 r' n:=by
 induction n with
 |zero=>rfl
 |succ n ih=>
  show or2 (X0 r n) (r n).f0=or2 (X0 r' n) (r' n).f0
  rw[ih λj hj=>h j (by omega),h n (by omega)]
theorem okP_congr(h:∀j,j<n->(r j).f0=(r' j).f0):okP r n=okP r' n:=by
 induction n with
 |zero=>rfl
 |succ n ih=>
  show(bif okP r n then okA (r n).f0 (X0 r n)else za)=bif okP r' n then okA (r' n).f0 (X0 r' n)else za
  rw[ih λj hj=>h j (by omega),h n (by omega),ZhH λj hj=>h j (by omega)]
theorem Zkz(h:∀j,j<n->(r j).f0=(r' j).f0):JQ n r=JQ n r':=by
 unfold JQ;rw[okP_congr h,ZhH h]
theorem Lgrs_at(a:Zd):(Jw a a.n0).1=a.n0/\∀j,j<a.n0->(Jw a a.n0).2 j=⟨(a.r0 j).n1,(a.r0 j).r1⟩:=by
 refine Zjn (F:=λj=>⟨(a.r0 j).n1,(a.r0 j).r1⟩) (step:=ZhD a) (m:=a.n0) (λk z hk=>?_) a.n0 (zJ _)
 refine Prod.ext rfl (funext λjj=>?_)
 show Ux (bif zo jj (z.1+0)then _ else _)=bif zo jj z.1 then _ else _
 rw[Nat.add_zero]
 cases zo jj z.1<;>rfl
theorem Zc1{a:Zd}(h:Wv a=0):Xa a=a.n0/\∀j,j<a.n0->Z7 a j=⟨(a.r0 j).n1,(a.r0 j).r1⟩:=by
 have hc:(bif Wv (ZT (zf (zl za 2 a.n0 λj=>Zw za (a.r0 j)) zh)) != (0:Int)then ze else za)=za:=by
  rw[show Wv (ZT (zf (zl za 2 a.n0 λj=>Zw za (a.r0 j)) zh))=0 from h];rfl
 have hv:(Zc0 a).valOf=zl za 1 (Jw a a.n0).1 λj=>zf (zl za 1 (Zc.n0 ((Jw a a.n0).2 ((0:Nat)+j))) λj_1=>zf (zn za .i64 (((Jw a a.n0).2 ((0:Nat)+j)).r0 j_1).f0) zh) zh:=by
  unfold Zc0
  simp only[Tree.valOf]
  exact cF hc rfl
 have hl:=Lgrs_at a
 refine⟨?_,λj hj=>?_⟩
 ·unfold Xa;rw[hv];exact hl.1
 ·unfold Z7;rw[hv]
  show(⟨((Jw a a.n0).2 (0+j)).n0,λk=>((Jw a a.n0).2 (0+j)).r0 k⟩:Zc)=_
  rw[z8,hl.2 j hj]
abbrev rmB(p:Zg)(gu:Ze)(ga:Zd)(k:Nat):Bool:=Zjt (Z4 .nil) 0 (λ_=>ZM .nil) 0 p gu ga (Xa ga) (Z7 ga) k
theorem room_eq(p:Zg)(gu:Ze)(ga:Zd):YH p gu ga=(!decide (VR p gu gu.n1 gu.r1>=0)&&!Zv (rmB p gu ga) (Xa ga)):=by
 have e:YH p gu ga=V.toBool (bif (bif decide (VR p gu gu.n1 gu.r1>=(0:Int))then ze else za)then zC ze za else bif (bif Zv (rmB p gu ga) (Xa ga)then ze else za)then zC ze za else zC ze ze):=by kernel_rfl
 rw[e]
 cases decide (VR p gu gu.n1 gu.r1>=0)<;>cases Zv (rmB p gu ga) (Xa ga)<;>rfl
theorem ixMay_eq(p:Zg)(gu:Ze)(n:Nat)(r:Nat->ZJ):VR p gu n r=bif Zv (λk=>Yb p gu (r k).f0==0) n then((Yc (λk=>Yb p gu (r k).f0==0) n 0:Nat):Int)else -1:=by
 have hb:Zef n r (Z4 .nil) 0 (λ_=>ZM .nil) 0 p gu (ZT .nil)=λk=>Yb p gu (r k).f0==0:=by
  funext k
  show(bif (bif (bif Yb p gu (r k).f0==(0:Int)then ze else za)then ze else za)then ze else za)=_
  cases Yb p gu (r k).f0==(0:Int)<;>rfl
 unfold VR Zgf
 rw[hb]
 show V.toInt (bif (bif Zv (λk=>Yb p gu (r k).f0==0) n then ze else za)then _ else _)=_
 cases Zv (λk=>Yb p gu (r k).f0==0) n<;>rfl
theorem rm2_masks(d:Za)(gn:Nat)(gr:Nat->DT3)(sa:Int)(p:Zg)(gu:Ze)(ga:Zd)(rn:Nat)(rr:Nat->Zc)(w:Int)(m:Nat)(r:Nat->DT3):(QY d gn gr sa p gu ga rn rr w m r m).1=m/\∀j,j<m->(QY d gn gr sa p gu ga rn rr w m r m).2 j=⟨Yb p gu (r j).f0⟩:=by
 refine Zjn (F:=λj=>⟨Yb p gu (r j).f0⟩) (step:=Zap d gn gr sa p gu ga rn rr w m r) (m:=m) (λk z hk=>?_) m (zJ _)
 refine Prod.ext rfl (funext λjj=>?_)
 show Yq (bif zo jj (z.1+0)then _ else _)=bif zo jj z.1 then _ else _
 rw[Nat.add_zero]
 cases zo jj z.1<;>rfl
variable{p:Zg}
theorem rmB_eq{gu:Ze}{ga:Zd}(h:Wv ga=0)(hk:k<ga.n0):rmB p gu ga k= !Ql (ga.r0 k).n1 (λq=>⟨Yb p gu ((ga.r0 k).r1 q).f0⟩):=by
 have hr:=(Zc1 h).2 k hk
 have e:rmB p gu ga k=bif (bif (bif !Ql (QY (Z4 .nil) 0 (λ_=>ZM .nil) 0 p gu ga (Xa ga) (Z7 ga) (k:Int) (Z7 ga k).n0 (Z7 ga k).r0 (Z7 ga k).n0).1 (λj=>(QY (Z4 .nil) 0 (λ_=>ZM .nil) 0 p gu ga (Xa ga) (Z7 ga) (k:Int) (Z7 ga k).n0 (Z7 ga k).r0 (Z7 ga k).n0).2 (0+j))then ze else za)then ze else za)then ze else za:=by kernel_rfl
 rw[e,hr]
 have hm:=rm2_masks (Z4 .nil) 0 (λ_=>ZM .nil) 0 p gu ga (Xa ga) (Z7 ga) (k:Int) (ga.r0 k).n1 (ga.r0 k).r1
 dsimp only
 rw[hm.1,Zf1 (b:=λq=>⟨Yb p gu ((ga.r0 k).r1 q).f0⟩) (λj hj=>by rw[z8];exact hm.2 j hj)]
 cases Ql (ga.r0 k).n1 (λq=>⟨Yb p gu ((ga.r0 k).r1 q).f0⟩)<;>rfl
theorem Jy{f:Nat->Bool}(h:∀k,k<n->f k=za):Zv f n=za:=Zcj h
theorem ZdM{gu:Ze}{ga:Zd}(h:Wv ga=0):YH p gu ga=ze↔(∀j,j<gu.n1->Yb p gu (gu.r1 j).f0≠0)/\∀k,k<ga.n0->Ql (ga.r0 k).n1 (λq=>⟨Yb p gu ((ga.r0 k).r1 q).f0⟩)=ze:=by
 rw[room_eq,ixMay_eq,(Zc1 h).1]
 constructor
 ·intro hr
  simp only[zM,yj]at hr
  refine⟨λj hj e=>?_,λk hk=>?_⟩
  ·have ha:Zv (λk=>Yb p gu (gu.r1 k).f0==0) gu.n1=ze:=by
    cases hq:Zv (λk=>Yb p gu (gu.r1 k).f0==0) gu.n1
    ·have:=XI hq j hj
     rw[e]at this;simp at this
    ·rfl
   rw[ha]at hr
   have:=of_decide_eq_false hr.1
   simp only[cond_true]at this
   omega
  ·have:=XI hr.2 k hk
   rw[rmB_eq h hk]at this
   exact nT (by rw[this])
 ·intro⟨h1,h2⟩
  have e1:Zv (λk=>Yb p gu (gu.r1 k).f0==0) gu.n1=za:=Jy λk hk=>by
   have:=h1 k hk
   simp[this]
  have e2:Zv (rmB p gu ga) ga.n0=za:=Jy λk hk=>by rw[rmB_eq h hk,h2 k hk];rfl
  rw[e1,e2];rfl
theorem ix3_eq(n:Nat)(a:Nat->DT3)(b:Int):Zbn n a b=bif Zv (λk=>b==(a k).f0) n then((Yc (λk=>b==(a k).f0) n 0:Nat):Int)else -1:=by
 have hb:Zeb n a b=λk=>b==(a k).f0:=by
  funext k
  show(bif (bif (bif b==(a k).f0 then ze else za)then ze else za)then ze else za)=_
  cases b==(a k).f0<;>rfl
 unfold Zbn ix3_T
 rw[hb]
 show V.toInt (bif (bif Zv (λk=>b==(a k).f0) n then ze else za)then _ else _)=_
 cases Zv (λk=>b==(a k).f0) n<;>rfl
theorem ZfC{a:Nat->DT3}:Yy n a b=ze↔∃k,k<n/\(a k).f0=b:=by
 have e:Yy n a b=decide (Zbn n a b>=0):=by kernel_rfl
 rw[e,ix3_eq]
 constructor
 ·intro h
  cases hq:Zv (λk=>b==(a k).f0) n with
  |true=>
   obtain⟨k,hk,hf⟩:=Zeu hq
   exact⟨k,hk,(eqT hf).symm⟩
  |false=>
   rw[hq]at h
   have:=of_decide_eq_true h
   simp only[cond_false]at this
   omega
 ·intro⟨k,hk,hf⟩
  have hq:Zv (λk=>b==(a k).f0) n=ze:=by
   cases hq:Zv (λk=>b==(a k).f0) n
   ·have:=XI hq k hk
    rw[hf]at this;simp at this
   ·rfl
  rw[hq]
  exact decide_eq_true (by simp only[cond_true];omega)
theorem ct3_no{a:Nat->DT3}(h:∀k,k<n->(a k).f0≠b):Yy n a b=za:=by
 cases e:Yy n a b
 ·rfl
 ·obtain⟨k,hk,hf⟩:=ZfC.1 e
  exact absurd hf (h k hk)
theorem Zlo(n:Nat)(r:Nat->DT3)(h g:Int->Bool)(x:Int)(hx:h x=ze/\g x=ze):∀m,(Qd n r h g m).1 x=ze/\(Qd n r h g m).2 x=ze:=by
 intro m
 induction m with
 |zero=>exact hx
 |succ m ih=>
  show(G6 n r h g m (Qd n r h g m)).1 x=ze/\(G6 n r h g m (Qd n r h g m)).2 x=ze
  generalize Qd n r h g m=z at ih
  unfold G6
  dsimp only
  cases(bif bif bif z.1 (r (zi (m:Int))).f0 then z.2 (r (zi (m:Int))).f0 else za then ze else za then ze else za)
  ·show(bif x==(r (zi (m:Int))).f0 then ze else z.1 x)=ze/\(bif x==(r (zi (m:Int))).f0 then ze else z.2 x)=ze
   rw[ih.1,ih.2]
   cases x==(r (zi (m:Int))).f0<;>exact⟨rfl,rfl⟩
  ·exact ih
theorem gc2_has(n:Nat)(r:Nat->DT3)(h g:Int->Bool):∀m,(∀q,q<m->G5 n r h g q=za)->∀q,q<m->(Qd n r h g m).1 (r q).f0=ze/\(Qd n r h g m).2 (r q).f0=ze:=by
 intro m
 induction m with
 |zero=>intro _ q hq;exact absurd hq (yB _)
 |succ m ih=>
  intro hb q hq
  have ih:=ih (λq hq=>hb q (by omega))
  have hbm:=hb m (by omega)
  show(G6 n r h g m (Qd n r h g m)).1 (r q).f0=ze/\(G6 n r h g m (Qd n r h g m)).2 (r q).f0=ze
  unfold G5 at hbm
  generalize Qd n r h g m=z at ih hbm
  have hc:=nf4 hbm
  have hs:G6 n r h g m z=((λj_=>bif j_==(r m).f0 then ze else z.1 j_),(λj_=>bif j_==(r m).f0 then ze else z.2 j_)):=cF hc rfl
  rw[hs]
  show(bif (r q).f0==(r m).f0 then ze else z.1 (r q).f0)=ze/\(bif (r q).f0==(r m).f0 then ze else z.2 (r q).f0)=ze
  rcases yE (Nat.le_of_lt_succ hq)with e|e
  ·subst e;simp
  ·have:=ih q e
   rw[this.1,this.2]
   cases(r q).f0==(r m).f0<;>exact⟨rfl,rfl⟩
section
variable{a:Zd}(h:Wv a=0)
include h
theorem gc1_no:∀k,k<a.n0->Zf4 a k=za:=XI (nf4 (zF (by decide) h).1)
theorem Zbf{k:Nat}(hk:k<a.n0):(WK a k).1<(a.r0 k).f0/\(a.r0 k).f0<=8/\Uv (a.r0 k).n1 (a.r0 k).r1=ze/\(∀q,q<(a.r0 k).n1->G5 (a.r0 k).n1 (a.r0 k).r1 (WK a k).2.1 (WK a k).2.2 q=za)/\WK a (k+1)=((a.r0 k).f0,(Qd (a.r0 k).n1 (a.r0 k).r1 (WK a k).2.1 (WK a k).2.2 (a.r0 k).n1).1,(Qd (a.r0 k).n1 (a.r0 k).r1 (WK a k).2.1 (WK a k).2.2 (a.r0 k).n1).2):=by
 have hb:=orF (gc1_no h k hk)
 have c1:=hb.1
 have c2:=(orF hb.2).1
 have d1:=orF (nf4 c1)
 have d2:=orF d1.2
 have e1:=of_decide_eq_false d1.1
 have e2:=of_decide_eq_false d2.1
 have e1':¬(a.r0 k).f0<=(WK a k).1:=e1
 have e2':¬(a.r0 k).f0>8:=e2
 refine⟨by omega,by omega,nT d2.2,XI (nf4 c2),?_⟩
 exact cF c1 (cF c2 rfl)
theorem Zlk:∀k,k<=a.n0->0<=(WK a k).1/\∀i,i<k->(a.r0 i).f0<=(WK a k).1:=by
 intro k
 induction k with
 |zero=>intro _;exact⟨Int.le_refl _,λi hi=>absurd hi (yB _)⟩
 |succ k ih=>
  intro hk
  have ih:=ih (by omega)
  have ha:=Zbf h (k:=k) (by omega)
  rw[ha.2.2.2.2]
  refine⟨by show 0<=(a.r0 k).f0;omega,λi hi=>?_⟩
  show(a.r0 i).f0<=(a.r0 k).f0
  rcases yE (Nat.le_of_lt_succ hi)with e|e
  ·subst e;exact Int.le_refl _
  ·have:=ih.2 i e;omega
theorem gang_rise:∀i j,i<j->j<a.n0->(a.r0 i).f0<(a.r0 j).f0:=λi j hij hj=>by
 have h1:=(Zlk h j (by omega)).2 i hij
 have h2:=(Zbf h hj).1
 omega
variable{i:Nat}
theorem gang_id(hi:i<a.n0):1<=(a.r0 i).f0/\(a.r0 i).f0<=8:=by
 have h1:=(Zlk h i (by omega)).1
 have h2:=Zbf h hi
 exact⟨by omega,h2.2.1⟩
theorem Zln(hi:i<a.n0):0<(a.r0 i).n1/\(a.r0 i).n1<=8:=Zlg (Zbf h hi).2.2.1
theorem gang_met:∀k,k<=a.n0->∀i,i<k->∀q,q<(a.r0 i).n1->(WK a k).2.1 ((a.r0 i).r1 q).f0=ze/\(WK a k).2.2 ((a.r0 i).r1 q).f0=ze:=by
 intro k
 induction k with
 |zero=>intro _ i hi;exact absurd hi (yB _)
 |succ k ih=>
  intro hk i hi q hq
  have ha:=Zbf h (k:=k) (by omega)
  rw[ha.2.2.2.2]
  rcases yE (Nat.le_of_lt_succ hi)with e|e
  ·subst e
   exact gc2_has _ _ _ _ _ ha.2.2.2.1 q hq
  ·exact Zlo _ _ _ _ _ (ih (by omega) i e q hq) _
variable{q:Nat}
theorem Zlj{j s:Nat}(hij:i<j)(hj:j<a.n0)(hq:q<(a.r0 i).n1)(hs:s<(a.r0 j).n1):((a.r0 i).r1 q).f0≠((a.r0 j).r1 s).f0:=by
 intro e
 have hm:=gang_met h j (by omega) i hij q hq
 have ha:=(Zbf h hj).2.2.2.1 s hs
 have hc:=nf4 (nf4 (nf4 ha))
 have h2:=Zlo (a.r0 j).n1 (a.r0 j).r1 (WK a j).2.1 (WK a j).2.2 _ hm s
 rw[e]at h2
 have hc2:(bif (Qd (a.r0 j).n1 (a.r0 j).r1 (WK a j).2.1 (WK a j).2.2 s).1 ((a.r0 j).r1 s).f0 then(Qd (a.r0 j).n1 (a.r0 j).r1 (WK a j).2.1 (WK a j).2.2 s).2 ((a.r0 j).r1 s).f0 else za)=za:=hc
 rw[h2.1,h2.2]at hc2
 cases hc2
theorem Zll{j s:Nat}(hi:i<a.n0)(hj:j<a.n0)(hq:q<(a.r0 i).n1)(hs:s<(a.r0 j).n1)(e:((a.r0 i).r1 q).f0=((a.r0 j).r1 s).f0):i=j:=by
 rcases Nat.lt_trichotomy i j with h1|h1|h1
 ·exact absurd e (Zlj h h1 hj hq hs)
 ·exact h1
 ·exact absurd e.symm (Zlj h h1 hi hs hq)
theorem gOf_at(hi:i<a.n0)(hq:q<(a.r0 i).n1):YP a ((a.r0 i).r1 q).f0=(a.r0 i).f0:=by
 have hb:∀y k,Q6 a.n0 a.r0 y k=Yy (a.r0 k).n1 (a.r0 k).r1 y:=λy k=>by
  show(bif (bif (bif Yy (a.r0 k).n1 (a.r0 k).r1 y then ze else za)then ze else za)then ze else za)=_
  cases Yy (a.r0 k).n1 (a.r0 k).r1 y<;>rfl
 have hb2:Q6 a.n0 a.r0 ((a.r0 i).r1 q).f0 i=ze:=by rw[hb];exact ZfC.2 ⟨q,hq,rfl⟩
 have ha:Zv (Q6 a.n0 a.r0 ((a.r0 i).r1 q).f0) a.n0=ze:=by
  cases e:Zv (Q6 a.n0 a.r0 ((a.r0 i).r1 q).f0) a.n0
  ·rw[XI e i hi]at hb2;cases hb2
  ·rfl
 have hf:=ZfY ha
 have hx:Yc (Q6 a.n0 a.r0 ((a.r0 i).r1 q).f0) a.n0 0=i:=by
  rw[hb]at hf
  obtain⟨s,hs,es⟩:=ZfC.1 hf.2.1
  exact Zll h hf.1 hi hs hq es
 have hix:JX ((a.r0 i).r1 q).f0 a.n0 a.r0=(i:Int):=by rw[ZiW,ha,hx];rfl
 have e:YP a ((a.r0 i).r1 q).f0=V.toInt (bif (bif (bif Wv a != (0:Int)then ze else decide (JX ((a.r0 i).r1 q).f0 a.n0 a.r0<(0:Int)))then ze else za)then V.tup (zf (zn ze .i64 (0:Int)) (zf (zC ze za) zh))else V.tup (zf (zn za .i64 (a.r0 (zi (JX ((a.r0 i).r1 q).f0 a.n0 a.r0))).f0) (zf (zC ze ze) zh))).inner.hd:=by kernel_rfl
 rw[e,h,hix,decide_eq_false (by omega:¬(i:Int)<0)]
 rfl
theorem gOf_none{v:Int}(hv:∀i,i<a.n0->∀q,q<(a.r0 i).n1->((a.r0 i).r1 q).f0≠v):YP a v=0:=by
 have hb:∀k,Q6 a.n0 a.r0 v k=Yy (a.r0 k).n1 (a.r0 k).r1 v:=λk=>by
  show(bif (bif (bif Yy (a.r0 k).n1 (a.r0 k).r1 v then ze else za)then ze else za)then ze else za)=_
  cases Yy (a.r0 k).n1 (a.r0 k).r1 v<;>rfl
 have ha:Zv (Q6 a.n0 a.r0 v) a.n0=za:=Jy λk hk=>by rw[hb];exact ct3_no (hv k hk)
 have hix:JX v a.n0 a.r0= -1:=by rw[ZiW,ha];rfl
 have e:YP a v=V.toInt (bif (bif (bif Wv a != (0:Int)then ze else decide (JX v a.n0 a.r0<(0:Int)))then ze else za)then V.tup (zf (zn ze .i64 (0:Int)) (zf (zC ze za) zh))else V.tup (zf (zn za .i64 (a.r0 (zi (JX v a.n0 a.r0))).f0) (zf (zC ze ze) zh))).inner.hd:=by kernel_rfl
 rw[e,h,hix]
 rfl
end
def Zbd(a:Zd)(b:Int):V:=bif (bif (bif Wv a != (0:Int)then ze else bif decide (b<(1:Int))then ze else decide (b>(8:Int)))then ze else za)then .Zl else bif (bif !VN a b then ze else za)then .Zl else zl za 1 (a.r0 (zi (Jk a b))).n1 λj=>zf (zn za .i64 ((a.r0 (zi (Jk a b))).r1 j).f0) zh
theorem ZiN(a:Zd)(b:Int):YO a b=(Zbd a b).Zy:=by kernel_rfl
theorem gMem_eqr(a:Zd)(b:Int):Y9 a b=λj=>ZM ((Zbd a b).ZB j):=by kernel_rfl
section
variable{a:Zd}(h:Wv a=0)
include h
theorem gMem_zero:YO a 0=0:=by
 rw[ZiN]
 unfold Zbd
 rw[h];rfl
theorem gMem_at{i:Nat}(hi:i<a.n0):YO a (a.r0 i).f0=(a.r0 i).n1/\Y9 a (a.r0 i).f0=(a.r0 i).r1:=by
 have hd:=gang_id h hi
 have hw:∀k,k<a.n0->zy zq ((a.r0 k).f0-(a.r0 i).f0)=(a.r0 k).f0-(a.r0 i).f0:=λk hk=>by
  have:=gang_id h hk
  exact IntWalk.i64_in _ ⟨by omega,by omega⟩
 have hat:JL a.n0 a.r0 (a.r0 i).f0=i:=Zj8 (g:=λk=>(a.r0 k).f0) (λk hk=>by
  show decide (zy zq ((a.r0 k).f0-(a.r0 i).f0)<(0:Int))=_
  rw[hw k hk]
  by_cases q:(a.r0 k).f0<(a.r0 i).f0
  ·rw[decide_eq_true q,decide_eq_true (by omega)]
  ·rw[decide_eq_false q,decide_eq_false (by omega)]) (gang_rise h) hi rfl
 have hlt:decide (((i:Nat):Int)<((a.n0:Nat):Int))=ze:=decide_eq_true (by omega)
 have h0:Jk a (a.r0 i).f0=(i:Int):=by unfold Jk;rw[hat,hlt];rfl
 have h1:VN a (a.r0 i).f0=ze:=by
  unfold VN
  rw[hat,hlt]
  show(zy .i64 ((a.r0 i).f0-(a.r0 i).f0)==(0:Int))=ze
  rw[hw i hi,Int.sub_self];rfl
 have e:Zbd a (a.r0 i).f0=zl za 1 (a.r0 i).n1 λj=>zf (zn za .i64 ((a.r0 i).r1 j).f0) zh:=by
  unfold Zbd
  rw[h,decide_eq_false (by omega:¬(a.r0 i).f0<1),decide_eq_false (by omega:¬(a.r0 i).f0>8),h1,h0]
  rfl
 rw[ZiN,gMem_eqr,e]
 exact⟨rfl,rfl⟩
theorem Zlh(o:Int):YO a o<=8:=by
 rw[ZiN]
 unfold Zbd
 cases c1:(bif (bif Wv a != (0:Int)then ze else bif decide (o<(1:Int))then ze else decide (o>(8:Int)))then ze else za)
 ·cases c2:(bif !VN a o then ze else za)
  ·have h1:=(ZiM a o)
   have h2:=h1.2.2 (nT (nf4 c2))
   exact(Zln h (i:=zi (Jk a o)) (by omega)).2
  ·exact Nat.zero_le _
 ·exact Nat.zero_le _
end
def QT(x c:Int):Bool:=bif (bif decide (c<(0:Int))then ze else decide (c>=(8:Int)))then YX x 0 != 0 else YX x (zy .u32 ((1:Int)*(2:Int)^min (zi c) (zR .u32))) != 0
section
variable(d:Za)(p:Zg)(gu:Ze)(ga:Zd)(no:Nat)(orr:Nat->Zj)(np:Nat)(pr:Nat->ZA)(sa la:Int)
abbrev loA(k:Nat):Nat×(Nat->DT3):=Wm d p gu ga no orr np pr sa la Yb YP XR YO Y9 k
theorem lo_eq(k:Nat)(z:Nat×(Nat->DT3)):Zae d p gu ga no orr np pr sa la Yb YP XR YO Y9 k z=
  bif QT (Yb p gu (pr k).f0) (pr k).f1 then z else(z.1+1+YO ga (YP ga (pr k).f0),λj=>WM z.1 z.2 (pr k).f0 (Y9 ga (YP ga (pr k).f0)) j):=by
 have e:Zae d p gu ga no orr np pr sa la Yb YP XR YO Y9 k z=
   bif (bif (bif decide ((pr (0+k)).f1<(0:Int))then ze else decide ((pr (0+k)).f1>=(8:Int)))then ze else za)then
    (bif (bif YX (Yb p gu (pr (0+k)).f0) 0 != 0 then ze else za)then z else(z.1+1+YO ga (YP ga (pr (0+k)).f0),λj=>WM z.1 z.2 (pr (0+k)).f0 (Y9 ga (YP ga (pr (0+k)).f0)) j))
   else(bif (bif YX (Yb p gu (pr (0+k)).f0) (zy .u32 ((1:Int)*(2:Int)^min (zi (pr (0+k)).f1) (zR .u32))) != 0 then ze else za)then z else(z.1+1+YO ga (YP ga (pr (0+k)).f0),λj=>WM z.1 z.2 (pr (0+k)).f0 (Y9 ga (YP ga (pr (0+k)).f0)) j)):=by kernel_rfl
 rw[e,z8]
 unfold QT
 cases(bif decide ((pr k).f1<(0:Int))then ze else decide ((pr k).f1>=(8:Int)))
 ·cases(YX (Yb p gu (pr k).f0) (zy .u32 ((1:Int)*(2:Int)^min (zi (pr k).f1) (zR .u32))) != 0)<;>rfl
 ·cases(YX (Yb p gu (pr k).f0) 0 != 0)<;>rfl
def memG(z:Nat×(Nat->DT3))(x:Int):Prop:=∃i,i<z.1/\(z.2 i).f0=x
theorem memG_cat{z:Nat×(Nat->DT3)}{v x:Int}{m:Nat}{r:Nat->DT3}:memG (z.1+1+m,λj=>WM z.1 z.2 v r j) x↔memG z x\/x=v\/∃q,q<m/\(r q).f0=x:=by
 have c1:∀j,j<z.1->WM z.1 z.2 v r j=z.2 j:=λj hj=>by
  unfold WM
  have h1:zG j (z.1+1)=ze:=by simp only[Nat.blt_eq];omega
  have h2:zo j z.1=za:=by cases h:zo j z.1;rfl;exact absurd (zP h) (by omega)
  rw[h1,h2];rfl
 have c2:WM z.1 z.2 v r z.1=⟨v⟩:=by
  unfold WM
  have h1:zG z.1 (z.1+1)=ze:=by simp only[Nat.blt_eq];omega
  rw[h1,Nat.beq_refl];rfl
 have c3:∀q,WM z.1 z.2 v r (z.1+1+q)=r q:=λq=>by
  unfold WM
  have h1:zG (z.1+1+q) (z.1+1)=za:=by cases h:zG (z.1+1+q) (z.1+1);rfl;exact absurd (by simpa only[Nat.blt_eq]using h) (by omega)
  rw[h1,Nat.add_sub_cancel_left];rfl
 constructor
 ·intro⟨i,hi,he⟩
  have hi:i<z.1+1+m:=hi
  have he:(WM z.1 z.2 v r i).f0=x:=he
  rcases Nat.lt_trichotomy i z.1 with q|q|q
  ·rw[c1 i q]at he;exact .inl ⟨i,q,he⟩
  ·subst q;rw[c2]at he;exact .inr (.inl he.symm)
  ·obtain⟨t,rfl⟩:∃t,i=z.1+1+t:=⟨i-(z.1+1),by omega⟩
   rw[c3]at he
   exact .inr (.inr ⟨t,by omega,he⟩)
 ·intro hx
  rcases hx with⟨i,hi,he⟩|he|⟨q,hq,he⟩
  ·exact⟨i,by show i<z.1+1+m;omega,by show(WM z.1 z.2 v r i).f0=x;rw[c1 i hi,he]⟩
  ·exact⟨z.1,by show z.1<z.1+1+m;omega,by show(WM z.1 z.2 v r z.1).f0=x;rw[c2,he]⟩
  ·exact⟨z.1+1+q,by show z.1+1+q<z.1+1+m;omega,by show(WM z.1 z.2 v r (z.1+1+q)).f0=x;rw[c3,he]⟩
theorem lo_mem(x:Int):∀k,memG (loA d p gu ga no orr np pr sa la k) x↔∃i,i<k/\QT (Yb p gu (pr i).f0) (pr i).f1=za/\(x=(pr i).f0\/∃q,q<YO ga (YP ga (pr i).f0)/\(Y9 ga (YP ga (pr i).f0) q).f0=x):=by
 intro k
 induction k with
 |zero=>exact⟨λ⟨i,hi,_⟩=>absurd hi (yB _),λ⟨i,hi,_⟩=>absurd hi (yB _)⟩
 |succ k ih=>
  show memG (Zae d p gu ga no orr np pr sa la Yb YP XR YO Y9 k (loA d p gu ga no orr np pr sa la k)) x↔_
  rw[lo_eq]
  generalize loA d p gu ga no orr np pr sa la k=z at ih
  cases hc:QT (Yb p gu (pr k).f0) (pr k).f1 with
  |true=>
   simp only[cond_true]
   rw[ih]
   constructor
   ·intro⟨i,hi,h⟩;exact⟨i,by omega,h⟩
   ·intro⟨i,hi,h1,h2⟩
    rcases yE (Nat.le_of_lt_succ hi)with e|e
    ·subst e;rw[hc]at h1;cases h1
    ·exact⟨i,e,h1,h2⟩
  |false=>
   simp only[cond_false]
   rw[memG_cat,ih]
   constructor
   ·rintro(⟨i,hi,h⟩|h|h)
    ·exact⟨i,by omega,h⟩
    ·exact⟨k,by omega,hc,.inl h⟩
    ·exact⟨k,by omega,hc,.inr h⟩
   ·intro⟨i,hi,h1,h2⟩
    rcases yE (Nat.le_of_lt_succ hi)with e|e
    ·subst e;exact .inr h2
    ·exact .inl ⟨i,e,h1,h2⟩
end
abbrev OfZ:=Int×(Nat->Zj)×Nat×(Nat->ZA)
def JZ:Int:=4611686018427387904
def ofX(no:Nat)(z:OfZ)(k:Nat):Int:=XO no (λj=>z.2.1 j) (0+k) z.2.2.1 (λj=>z.2.2.2 (0+j))
def ofCells(o:Zj):V:=.cons (.int za .i64 o.f0) (.cons (.int za .i64 o.f1) (.cons (.int za .i64 o.f2) (.cons (.int za .u32 o.f3) (.cons (.int za .i64 o.f4) (.cons (.int za .u64 o.f5) (.cons (.int za .u64 o.f6) (.cons (.int za .u64 o.f7) (.cons (.int za .u64 o.f8) (.cons (.int ze .i64 0) (.cons (.int za .i64 o.f10) .nil))))))))))
def KY(z:OfZ)(k:Nat):Nat->Zj:=λj=>ZV (bif zo j (0+k)then V.splice (bif zo (0+k) (0+k)then ofCells (z.2.1 (0+k))else Zo za (z.2.1 (0+k))) 8 (zf (zn za .u64 (zy .u64 (z.1+1))) zh)else bif zo j (0+k)then ofCells (z.2.1 (0+k))else Zo za (z.2.1 j))
def Zbv(no:Nat)(z:OfZ)(k:Nat):Nat:=zi (ofX no z k)+(z.2.2.1-zi (zy .i64 (ofX no z k+1)))
def Vo(no:Nat)(z:OfZ)(k:Nat):Nat->ZA:=λj=>Ye (bif zK (0+zi ((Zbv no z k:Nat):Int)) j&&zG j (0+zi ((Zbv no z k:Nat):Int)+(zi ((z.2.2.1:Nat):Int)-zi ((Zbv no z k:Nat):Int)))then zf (zn ze .i64 (0:Int)) (zf (zn ze .i64 (0:Int)) zh)else bif zK (0+zi (ofX no z k)) j&&zG j (0+zi (ofX no z k)+(z.2.2.1-zi (zy .i64 (ofX no z k+1))))then bif zG (0+zi (zy .i64 (ofX no z k+1))+(j-(0+zi (ofX no z k)))) z.2.2.1 then Zt za (z.2.2.2 (0+zi (zy .i64 (ofX no z k+1))+(j-(0+zi (ofX no z k)))))else zf V.junk (zf V.junk zh)else Zt za (z.2.2.2 j))
section
variable(d:Za)(p:Zg)(gu:Ze)(ga:Zd)(no:Nat)(orr:Nat->Zj)(np:Nat)(pr:Nat->ZA)(sa la:Int)(gn:Nat)(gr:Nat->DT3)
def UH(z:OfZ)(k:Nat):Bool:=bif decide (ofX no z k<(0:Int))then ze else !Yy gn (λj=>gr (0+j)) (z.2.1 (0+k)).f0
theorem of_eq(k:Nat)(z:OfZ):Zbw d p gu ga no orr np pr sa la gn gr XO Yy k z=bif (bif UH no gn gr z k then ze else za)then z else bif (bif z.1==JZ then ze else za)then z else(zy .u64 (z.1+1),KY z k,Zbv no z k,Vo no z k):=by kernel_rfl
theorem ofb_eq(k:Nat):Zal d p gu ga no orr np pr sa la gn gr XO Yy k=bif (bif UH no gn gr (XL d p gu ga no orr np pr sa la gn gr XO Yy k) k then ze else za)then za else bif (bif (XL d p gu ga no orr np pr sa la gn gr XO Yy k).1==JZ then ze else za)then ze else za:=by kernel_rfl
end
theorem Zck{a b:Nat}(h:a≠b):zo a b=za:=by
 cases e:zo a b
 ·rfl
 ·exact absurd (zP e) h
theorem bltT_of{a b:Nat}(h:a<b):zG a b=ze:=by simpa only[Nat.blt_eq]using h
theorem ZhK{a b:Nat}(h:¬a<=b):zK a b=za:=by
 cases e:zK a b
 ·rfl
 ·exact absurd (by simpa only[Nat.ble_eq]using e) h
theorem bleT_of{a b:Nat}(h:a<=b):zK a b=ze:=by simpa only[Nat.ble_eq]using h
theorem ofX_cases(no:Nat)(z:OfZ)(k:Nat):(ofX no z k<0/\∀i,i<z.2.2.1->(z.2.2.2 i).f0≠(z.2.1 k).f0)\/∃i,i<z.2.2.1/\ofX no z k=(i:Int)/\(z.2.2.2 i).f0=(z.2.1 k).f0:=by
 have hb:Vb z.2.2.1 (λj=>z.2.2.2 (0+j)) no (λj=>z.2.1 j) (0+k)=λi=>(z.2.2.2 i).f0==(z.2.1 k).f0:=by
  funext i
  have e:Vb z.2.2.1 (λj=>z.2.2.2 (0+j)) no (λj=>z.2.1 j) (0+k) i=bif (bif (bif (z.2.2.2 (0+i)).f0==(z.2.1 (0+k)).f0 then ze else za)then ze else za)then ze else za:=by kernel_rfl
  rw[e,z8,z8]
  cases(z.2.2.2 i).f0==(z.2.1 k).f0<;>rfl
 have hx:ofX no z k=bif Zv (λi=>(z.2.2.2 i).f0==(z.2.1 k).f0) z.2.2.1 then((Yc (λi=>(z.2.2.2 i).f0==(z.2.1 k).f0) z.2.2.1 0:Nat):Int)else -1:=by
  unfold ofX
  rw[Zly,hb]
 rw[hx]
 cases ha:Zv (λi=>(z.2.2.2 i).f0==(z.2.1 k).f0) z.2.2.1 with
 |false=>
  refine .inl ⟨by show(-1:Int)<0;omega,λi hi e=>?_⟩
  have:=XI ha i hi
  rw[e]at this;simp at this
 |true=>
  have hf:=ZfY ha
  exact .inr ⟨_,hf.1,rfl,eqT hf.2.1⟩
theorem Zdw(z:OfZ)(k:Nat):KY z k k={ z.2.1 k with f8:=zy .u64 (z.1+1),f9:=0 }:=by
 unfold KY
 rw[z8,Nat.beq_refl]
 rfl
theorem Zaj(z:OfZ)(h:j≠k):KY z k j=z.2.1 j:=by
 unfold KY
 rw[z8,Zck h]
 rfl
theorem Zl9{no:Nat}{z:OfZ}(hx:ofX no z k=(i:Int))(hi:i<z.2.2.1)(hn:z.2.2.1<=100):Zbv no z k=z.2.2.1-1:=by
 unfold Zbv
 rw[hx,IntWalk.i64_in _ ⟨by omega,by omega⟩]
 omega
theorem ofPut_at{no:Nat}{z:OfZ}(hx:ofX no z k=(i:Int))(hi:i<z.2.2.1)(hn:z.2.2.1<=100)(hj:j<z.2.2.1-1):Vo no z k j=z.2.2.2 (if j<i then j else j+1):=by
 have hl:=Zl9 hx hi hn
 unfold Vo
 rw[hl,hx,IntWalk.i64_in ((i:Int)+1) ⟨by omega,by omega⟩]
 simp only[Int.toNat_natCast,z8]
 rw[ZhK (show ¬z.2.2.1-1<=j by omega)]
 have e1:zi ((i:Int)+1)=i+1:=by omega
 rw[e1]
 by_cases hji:j<i
 ·rw[ZhK (show ¬i<=j by omega),if_pos hji]
  rfl
 ·rw[bleT_of (show i<=j by omega),bltT_of (show j<i+(z.2.2.1-(i+1))by omega),if_neg hji]
  rw[show i+1+(j-i)=j+1 by omega,bltT_of (show j+1<z.2.2.1 by omega)]
  rfl
section
variable{d:Za}{p:Zg}{gu:Ze}{ga:Zd}{no:Nat}{orr:Nat->Zj}{np:Nat}{pr:Nat->ZA}{sa la:Int}{gn:Nat}{gr:Nat->DT3}
variable(d p gu ga no orr np pr sa la gn gr)in
abbrev UG(k:Nat):OfZ:=XL d p gu ga no orr np pr sa la gn gr XO Yy k
variable(no orr np pr la gn gr)in
structure OfI(k:Nat)(z:OfZ):Prop where
 sub:∃e:Nat->Nat,(∀i,i<z.2.2.1->e i<np/\z.2.2.2 i=pr (e i))/\∀i j,i<j->j<z.2.2.1->e i<e j
 kept:∀i,i<np->(∃j,j<z.2.2.1/\z.2.2.2 j=pr i)\/Yy gn gr (pr i).f0=ze
 gone:∀i,i<z.2.2.1->∀j,j<k->(orr j).f0=(z.2.2.2 i).f0->Yy gn gr (orr j).f0=za
 own:∀j,z.2.1 j=orr j\/(j<k/\∃o,la<o/\o<=z.1/\z.2.1 j={ orr j with f8:=o,f9:=0 })
 ord:∀i j,i≠j->i<no->j<no->(z.2.1 i).f8≠(z.2.1 j).f8
 top:∀j,j<no->(z.2.1 j).f8<=z.1
 off:∀j i,j<no->i<np->(pr i).f0=(orr j).f0->(∃i,i<z.2.2.1/\(z.2.2.2 i).f0=(orr j).f0)\/(z.2.1 j).f9=0
 low:la<=z.1/\z.1<=JZ
 len:z.2.2.1<=np
theorem of_inv(hnp:np<=100)(hla:0<=la/\la<=JZ)(hid:∀i j,i<no->j<no->(orr i).f0=(orr j).f0->i=j)(hv:∀i j,i<np->j<np->(pr i).f0=(pr j).f0->i=j)
  (ho:∀i j,i≠j->i<no->j<no->(orr i).f8≠(orr j).f8)(ht:∀j,j<no->(orr j).f8<=la):∀k,k<=no->(∀i,i<k->Zal d p gu ga no orr np pr sa la gn gr XO Yy i=za)->OfI no orr np pr la gn gr k (UG d p gu ga no orr np pr sa la gn gr k):=by
 intro k
 induction k with
 |zero=>intro _ _;exact⟨⟨id,λi hi=>⟨hi,rfl⟩,λi j h _=>h⟩,λi hi=>.inl ⟨i,hi,rfl⟩,λi _ j hj=>absurd hj (yB _),λj=>.inl rfl,ho,ht,λj i _ hi e=>.inl ⟨i,hi,e⟩,⟨Int.le_refl _,hla.2⟩,zJ _⟩
 |succ k ih=>
  intro hk hb
  have ih:=ih (by omega) (λi hi=>hb i (by omega))
  have hbk:=hb k (by omega)
  show OfI no orr np pr la gn gr (k+1) (Zbw d p gu ga no orr np pr sa la gn gr XO Yy k (UG d p gu ga no orr np pr sa la gn gr k))
  rw[of_eq]
  rw[ofb_eq]at hbk
  change (bif (bif UH no gn gr (UG d p gu ga no orr np pr sa la gn gr k) k then ze else za)then za else bif (bif (UG d p gu ga no orr np pr sa la gn gr k).1==JZ then ze else za)then ze else za)=za at hbk
  generalize UG d p gu ga no orr np pr sa la gn gr k=z at ih hbk
  have hidk:(z.2.1 k).f0=(orr k).f0:=by
   rcases ih.own k with e|⟨hl,_⟩
   ·rw[e]
   ·exact absurd hl (Nat.lt_irrefl _)
  have hgr:(λj=>gr (0+j))=gr:=funext λj=>by rw[z8]
  have hkeep:UH no gn gr z k=bif decide (ofX no z k<(0:Int))then ze else !Yy gn gr (orr k).f0:=by
   unfold UH;rw[hgr,z8,hidk]
  have hX:=ofX_cases no z k
  cases hK:UH no gn gr z k with
  |true=>
   simp only[cond_true]
   refine⟨ih.sub,ih.kept,λi hi j hj e=>?_,λj=>?_,ih.ord,ih.top,ih.off,ih.low,ih.len⟩
   ·rcases yE (Nat.le_of_lt_succ hj)with q|q
    ·subst q
     rcases hX with⟨_,hno⟩|⟨i0,hi0,hx,_⟩
     ·exact absurd (by rw[hidk,e]) (hno i hi)
     ·rw[hK,hx,decide_eq_false (by omega)]at hkeep
      simp only[cond_false]at hkeep
      cases hc:Yy gn gr (orr j).f0
      ·rfl
      ·rw[hc]at hkeep;cases hkeep
    ·exact ih.gone i hi j q e
   ·rcases ih.own j with e|⟨hl,h⟩
    ·exact .inl e
    ·exact .inr ⟨by omega,h⟩
  |false=>
   rw[hK]at hbk
   simp only[cond_false]at hbk⊢
   have hmax:(z.1==JZ)=za:=nf4 (nf4 hbk)
   rw[hmax]
   simp only[cond_false]
   rw[hK]at hkeep
   have hlt:z.1<JZ:=by
    have h1:z.1≠JZ:=λe=>by rw[e]at hmax;simp at hmax
    have:=ih.low.2;omega
   have hw:zy .u64 (z.1+1)=z.1+1:=by
    have h1:=ih.low.1
    have h2:z.1+1<=4611686018427387904:=by have:JZ=4611686018427387904:=rfl;omega
    show(z.1+1)%18446744073709551616=z.1+1
    omega
   rcases hX with⟨hx,_⟩|⟨i0,hi0,hx,hi0v⟩
   ·rw[decide_eq_true hx]at hkeep;cases hkeep
   ·rw[hx,decide_eq_false (by omega)]at hkeep
    have hG:Yy gn gr (orr k).f0=ze:=by
     cases hc:Yy gn gr (orr k).f0
     ·rw[hc]at hkeep;cases hkeep
     ·rfl
    have hn:z.2.2.1<=100:=by have:=ih.len;omega
    have hL:=Zl9 hx hi0 hn
    have hP:∀j,j<z.2.2.1-1->Vo no z k j=z.2.2.2 (if j<i0 then j else j+1):=λj hj=>ofPut_at hx hi0 hn hj
    obtain⟨e,he1,he2⟩:=ih.sub
    have hrest:∀j,j<z.2.2.1->j≠i0->∃j',j'<z.2.2.1-1/\Vo no z k j'=z.2.2.2 j:=λj hj hne=>by
     by_cases h:j<i0
     ·exact⟨j,by omega,by rw[hP j (by omega),if_pos h]⟩
     ·exact⟨j-1,by omega,by rw[hP (j-1) (by omega),if_neg (by omega),show j-1+1=j by omega]⟩
    have hback:∀j,j<z.2.2.1-1->∃j',j'<z.2.2.1/\j'≠i0/\Vo no z k j=z.2.2.2 j':=λj hj=>by
     rw[hP j hj]
     by_cases h:j<i0
     ·rw[if_pos h];exact⟨j,by omega,by omega,rfl⟩
     ·rw[if_neg h];exact⟨j+1,by omega,by omega,rfl⟩
    have hinj:∀i j,i<z.2.2.1->j<z.2.2.1->(z.2.2.2 i).f0=(z.2.2.2 j).f0->i=j:=λi j hi hj hq=>by
     rw[(he1 i hi).2,(he1 j hj).2]at hq
     have:=hv _ _ (he1 i hi).1 (he1 j hj).1 hq
     rcases Nat.lt_trichotomy i j with h|h|h
     ·have:=he2 i j h hj;omega
     ·exact h
     ·have:=he2 j i h hi;omega
    rw[hL,hw]
    refine⟨⟨λj=>e (if j<i0 then j else j+1),λi hi=>?_,λi j hij hj=>?_⟩,λi hi=>?_,λi hi j hj hq=>?_,λj=>?_,λi j hij hi hj=>?_,λj hj=>?_,λj i hjn hi hq=>?_,⟨?_,?_⟩,?_⟩
    ·have hi:i<z.2.2.1-1:=hi
     show e (if i<i0 then i else i+1)<np/\Vo no z k i=pr (e (if i<i0 then i else i+1))
     rw[hP i hi]
     exact he1 _ (by split<;>omega)
    ·have hj:j<z.2.2.1-1:=hj
     show e (if i<i0 then i else i+1)<e (if j<i0 then j else j+1)
     exact he2 _ _ (by split<;>split<;>omega) (by split<;>omega)
    ·rcases ih.kept i hi with⟨j,hj,hq⟩|h
     ·by_cases hji:j=i0
      ·subst hji
       refine .inr ?_
       rw[<- hq,hi0v,hidk];exact hG
      ·obtain⟨j',h1,h2⟩:=hrest j hj hji
       exact .inl ⟨j',h1,by show Vo no z k j'=pr i;rw[h2,hq]⟩
     ·exact .inr h
    ·have hi:i<z.2.2.1-1:=hi
     have hq2:(orr j).f0=(Vo no z k i).f0:=hq
     obtain⟨j',h1,h2,h3⟩:=hback i hi
     rw[h3]at hq2
     rcases yE (Nat.le_of_lt_succ hj)with q|q
     ·subst q
      exact absurd (hinj j' i0 h1 hi0 (by rw[<- hq2,hi0v,hidk])) h2
     ·exact ih.gone j' h1 j q hq2
    ·show KY z k j=orr j\/(j<k+1/\∃o,la<o/\o<=z.1+1/\KY z k j={ orr j with f8:=o,f9:=0 })
     by_cases hjk:j=k
     ·subst hjk
      refine .inr ⟨by omega,z.1+1,by have:=ih.low.1;omega,Int.le_refl _,?_⟩
      rw[Zdw,hw]
      rcases ih.own j with q|⟨hl,_⟩
      ·rw[q]
      ·exact absurd hl (Nat.lt_irrefl _)
     ·rw[Zaj z hjk]
      rcases ih.own j with q|⟨hl,o,h1,h2,h3⟩
      ·exact .inl q
      ·exact .inr ⟨by omega,o,h1,by omega,h3⟩
    ·show(KY z k i).f8≠(KY z k j).f8
     by_cases hik:i=k
     ·subst hik
      rw[Zdw,Zaj z (Ne.symm hij)]
      show zy .u64 (z.1+1)≠(z.2.1 j).f8
      rw[hw]
      have:=ih.top j hj;omega
     ·by_cases hjk:j=k
      ·subst hjk
       rw[Zdw,Zaj z hij]
       show(z.2.1 i).f8≠zy .u64 (z.1+1)
       rw[hw]
       have:=ih.top i hi;omega
      ·rw[Zaj z hik,Zaj z hjk]
       exact ih.ord i j hij hi hj
    ·show(KY z k j).f8<=z.1+1
     by_cases hjk:j=k
     ·subst hjk
      rw[Zdw]
      show zy .u64 (z.1+1)<=z.1+1
      rw[hw];exact Int.le_refl _
     ·rw[Zaj z hjk]
      have:=ih.top j hj;omega
    ·show(∃i,i<z.2.2.1-1/\(Vo no z k i).f0=(orr j).f0)\/(KY z k j).f9=0
     by_cases hjk:j=k
     ·subst hjk
      rw[Zdw];exact .inr rfl
     ·rw[Zaj z hjk]
      rcases ih.off j i hjn hi hq with⟨i1,h1,h2⟩|h
      ·by_cases hi1:i1=i0
       ·subst hi1
        exact absurd (hid j k hjn (by omega) (by rw[<- h2,hi0v,hidk])) hjk
       ·obtain⟨j',h3,h4⟩:=hrest i1 h1 hi1
        exact .inl ⟨j',h3,by rw[h4,h2]⟩
      ·exact .inr h
    ·show la<=z.1+1
     have:=ih.low.1;omega
    ·show z.1+1<=JZ
     omega
    ·show z.2.2.1-1<=np
     have:=ih.len;omega
end
theorem bifV{x y:V}{g:V->Int}{r:Int}(h:g (bif c then x else y)=r):(c=ze/\g x=r)\/(c=za/\g y=r):=by cases c;exact .inr ⟨rfl,h⟩;exact .inl ⟨rfl,h⟩
theorem wT(h:(bif c then ze else za)=ze):c=ze:=by cases c;cases h;rfl
def e3V(v:V):Int:=v.inner.tl.tl.hd.toInt
structure Zep(p:Zg)(f s:Int):Prop where
 chk:V.toInt (Wo p)=0
 lo:0<=f
 hi:f<p.n0
 sub:Qh s 255=0
 nz:s≠0
 within:Qh (YX s 255) (p.r0 f.toNat).f0=0
 other:s≠(p.r0 f.toNat).f0
 num:p.n0≠4
 n0:(Zz p f s).n0=p.n0+1
 new:((Zz p f s).r0 p.n0).f0=s
 old:((Zz p f s).r0 f.toNat).f0=Qh (p.r0 f.toNat).f0 s
 rest:∀j,j<p.n0->j≠f.toNat->((Zz p f s).r0 j).f0=(p.r0 j).f0
 k:QW p f s=(p.n0:Int)
variable{f s:Int}
theorem ZmG(h:XE p f s=0):Zep p f s:=by
 have h0:e3V (bif _ then _ else _)=(0:Int):=h
 rcases bifV (g:=e3V) h0 with⟨c1,h1⟩|⟨c1,h1⟩
 ·have h1:V.toInt (Wo p)=0:=h1
  have c1:(V.toInt (Wo p) != (0:Int))=ze:=wT c1
  rw[h1]at c1;cases c1
 have h1':e3V (bif _ then _ else _)=(0:Int):=h1
 rcases bifV (g:=e3V) h1' with⟨c2,h2⟩|⟨c2,h2⟩
 ·have h2:(4:Int)=0:=h2
  omega
 have h2':e3V (bif _ then _ else _)=(0:Int):=h2
 rcases bifV (g:=e3V) h2' with⟨c3,h3⟩|⟨c3,h3⟩
 ·have h3:(140:Int)=0:=h3
  omega
 have h3':e3V (bif _ then _ else _)=(0:Int):=h3
 rcases bifV (g:=e3V) h3' with⟨c4,h4⟩|⟨c4,h4⟩
 ·exfalso
  have h4':e3V (bif (bif (bif (bif s==(0:Int)then ze else !Qh (YX s 255) (p.r0 (0+zi f)).f0==(0:Int))then(2:Int)else bif s==(p.r0 (0+zi f)).f0 then(181:Int)else(6:Int)) != (0:Int)then ze else za)then _ else _)=(0:Int):=h4
  rcases bifV (g:=e3V) h4' with⟨c5,h5⟩|⟨c5,h5⟩
  ·have h5:(bif (bif s==(0:Int)then ze else !Qh (YX s 255) (p.r0 (0+zi f)).f0==(0:Int))then(2:Int)else bif s==(p.r0 (0+zi f)).f0 then(181:Int)else(6:Int))=0:=h5
   rw[h5]at c5;cases c5
  ·revert c5
   cases(bif s==(0:Int)then ze else !Qh (YX s 255) (p.r0 (0+zi f)).f0==(0:Int))<;>cases(s==(p.r0 (0+zi f)).f0)<;>(intro c5;cases c5)
 have d2:=orF (nf4 (nf4 (nf4 c2)))
 have d2a:¬f<0:=of_decide_eq_false d2.1
 have d2b:¬f>=(p.n0:Int):=of_decide_eq_false d2.2
 have d3:(Qh s 255 != (0:Int))=za:=nf4 c3
 rw[bne]at d3
 have d4:(bif (bif s==(0:Int)then ze else !Qh (YX s 255) (p.r0 (0+zi f)).f0==(0:Int))then ze else bif (bif s==(p.r0 (0+zi f)).f0 then ze else bif (bif (p.n0:Int)==(4:Int)then ze else za)then ze else za)then ze else za)=za:=nf4 c4
 have d5:=orF d4
 have d6:=orF d5.1
 have d7:=orF (nf4 d5.2)
 have d8:=nf4 (nf4 d7.2)
 have z:(0:Nat)+zi f=zi f:=z8 _
 rw[z]at d6 d7
 have hv:(ZdA p f s).valOf=V.tup (zf (zH (zf (zl za 1 (p.n0+1) λj=>bif zo ((0:Nat)+j) (p.n0+0)then zf (zn za .u32 s) zh else bif zo ((0:Nat)+j) ((0:Nat)+zi f)then zf (zn za .u32 (Qh (p.r0 (0+zi f)).f0 s)) zh else zf (zn za .u32 (p.r0 ((0:Nat)+j)).f0) zh) zh)) (zf (zn za .i64 ((p.n0:Nat):Int)) (zf (zn ze .i64 0) zh))):=cF c1 (cF c2 (cF c3 (cF c4 rfl)))
 have hr:∀j,((Zz p f s).r0 j)=Yq (bif zo ((0:Nat)+j) (p.n0+0)then zf (zn za .u32 s) zh else bif zo ((0:Nat)+j) ((0:Nat)+zi f)then zf (zn za .u32 (Qh (p.r0 (0+zi f)).f0 s)) zh else zf (zn za .u32 (p.r0 ((0:Nat)+j)).f0) zh):=λj=>by
  unfold Zz;rw[hv];rfl
 have hfn:zi f<p.n0:=by omega
 refine⟨?_,by omega,by omega,eqT (nT d3),λe=>?_,eqT (nT d6.2),λe=>?_,λe=>?_,?_,?_,?_,λj hj hne=>?_,?_⟩
 ·have c1:=nf4 c1
  have c1:(V.toInt (Wo p) != (0:Int))=za:=c1
  rw[bne]at c1
  exact eqT (nT c1)
 ·rw[e]at d6;cases d6.1
 ·have:=d7.1
  rw[<- e]at this;simp at this
 ·rw[e]at d8;cases d8
 ·unfold Zz;rw[hv];rfl
 ·rw[hr];simp only[z8,Nat.add_zero];rw[Nat.beq_refl];rfl
 ·rw[hr];simp only[z8,Nat.add_zero];rw[Zck (by omega:zi f≠p.n0),Nat.beq_refl];rfl
 ·rw[hr];simp only[z8,Nat.add_zero];rw[Zck (by omega:j≠p.n0),Zck hne];rfl
 ·unfold QW;rw[hv];rfl
theorem ZmF(hs:inU s)(hp:∀j,j<p.n0->inU (p.r0 j).f0)(hn:p.n0<=5)(h:Zep p f s):V.toInt (Wo (Zz p f s))=0/\V.toInt (WA (Zz p f s))=V.toInt (WA p)/\p.n0<=3:=by
 have hn0:0<p.n0:=by have:=h.lo;have:=h.hi;omega
 have hn3:p.n0<=3:=by
  have h4:=h.num
  rcases yE hn with e|e
  ·have hc:=h.chk
   rw[show p=⟨5,p.r0⟩from by rw[<- e]]at hc
   rw[ZqU]at hc;cases hc
  ·omega
 have hfn:zi f<p.n0:=by have:=h.lo;have:=h.hi;omega
 have hchk:JQ p.n0 p.r0=0:=by rw[<- ZgS p.r0 hn0 (by omega)];exact h.chk
 obtain⟨hok,hpre⟩:=ZkA.1 hchk
 have hk:=(okP_iff p.r0 p.n0).1 hok
 obtain⟨f0,f255,_⟩:=hk _ hfn
 have s255:=U6.1 h.sub
 have hin:∀i,i<32->bt s i=ze->bt (p.r0 f.toNat).f0 i=ze:=λi hi hb=>by
  have h1:=U6.1 h.within i hi
  have h2:=s255 i hi
  rw[Zcn,hb,Bool.true_and]at h1
  rw[hb,Bool.true_and]at h2
  have h3:bt 255 i=ze:=by cases hq:bt 255 i;rw[hq]at h2;cases h2;rfl
  rw[h3,Bool.true_and]at h1
  cases hq:bt (p.r0 f.toNat).f0 i
  ·rw[hq]at h1;cases h1
  ·rfl
 have hap:∀j k,j<p.n0->k<p.n0->j≠k->∀i,i<32->(bt (p.r0 j).f0 i&&bt (p.r0 k).f0 i)=za:=λj k hj hk2 hne i hi=>by
  rcases Nat.lt_or_gt_of_ne hne with q|q
  ·exact(hk k hk2).2.2 j q i hi
  ·rw[Bool.and_comm];exact(hk j hj).2.2 k q i hi
 have hok':okP (Zz p f s).r0 (p.n0+1)=ze:=by
  refine(okP_iff _ _).2 λk hk1=>?_
  have hold:∀i,i<32->bt ((Zz p f s).r0 f.toNat).f0 i=(bt (p.r0 f.toNat).f0 i&&!bt s i):=λi hi=>by rw[h.old,ZaG _ _ hi]
  have hle:∀j,j<p.n0->∀i,i<32->bt ((Zz p f s).r0 j).f0 i=ze->bt (p.r0 j).f0 i=ze:=λj hj i hi hb=>by
   by_cases hjf:j=f.toNat
   ·subst hjf
    rw[hold i hi]at hb
    exact(zM _ _▸hb).1
   ·rw[h.rest j hj hjf]at hb;exact hb
  rcases yE (Nat.le_of_lt_succ hk1)with e|e
  ·subst e
   rw[h.new]
   refine⟨h.nz,h.sub,λj hj i hi=>?_⟩
   cases hb:bt s i
   ·rw[Bool.and_false]
   ·rw[Bool.and_true]
    by_cases hjf:j=f.toNat
    ·subst hjf;rw[hold i hi,hb];simp
    ·rw[h.rest j hj hjf]
     have:=hap j f.toNat hj hfn hjf i hi
     rw[hin i hi hb,Bool.and_true]at this
     exact this
  ·refine⟨λe0=>?_,U6.2 λi hi=>?_,λj hj i hi=>?_⟩
   ·by_cases hkf:k=f.toNat
    ·subst hkf
     rw[h.old]at e0
     have h0:=U6.1 e0
     refine h.other (Ze5 hs (hp _ hfn) λi hi=>?_)
     have h1:=h0 i hi
     cases hb:bt s i
     ·rw[hb]at h1
      cases hq:bt (p.r0 f.toNat).f0 i
      ·rfl
      ·rw[hq]at h1;cases h1
     ·exact(hin i hi hb).symm
    ·rw[h.rest k e hkf]at e0
     exact(hk k e).1 e0
   ·cases hb:bt ((Zz p f s).r0 k).f0 i
    ·rfl
    ·have h1:=U6.1 (hk k e).2.1 i hi
     rw[hle k e i hi hb]at h1
     exact h1
   ·cases hb:bt ((Zz p f s).r0 j).f0 i
    ·rfl
    ·cases hb2:bt ((Zz p f s).r0 k).f0 i
     ·rfl
     ·have:=hap j k (by omega) e (by omega) i hi
      rw[hle j (by omega) i hi hb,hle k e i hi hb2]at this
      cases this
 have hall:X0 (Zz p f s).r0 (p.n0+1)=X0 p.r0 p.n0:=by
  refine Ze5 (allP_U _ _) (allP_U _ _) λi hi=>?_
  have hold:bt ((Zz p f s).r0 f.toNat).f0 i=(bt (p.r0 f.toNat).f0 i&&!bt s i):=by rw[h.old,ZaG _ _ hi]
  have key:bt (X0 (Zz p f s).r0 (p.n0+1)) i=ze↔bt (X0 p.r0 p.n0) i=ze:=by
   rw[Zes,Zes]
   constructor
   ·intro⟨j,hj,hb⟩
    rcases yE (Nat.le_of_lt_succ hj)with e|e
    ·subst e
     rw[h.new]at hb
     exact⟨_,hfn,hin i hi hb⟩
    ·by_cases hjf:j=f.toNat
     ·subst hjf
      rw[hold]at hb
      exact⟨_,hfn,(zM _ _▸hb).1⟩
     ·rw[h.rest j e hjf]at hb
      exact⟨j,e,hb⟩
   ·intro⟨j,hj,hb⟩
    by_cases hjf:j=f.toNat
    ·subst hjf
     cases hs2:bt s i
     ·exact⟨f.toNat,by omega,by rw[hold,hb,hs2];rfl⟩
     ·exact⟨p.n0,by omega,by rw[h.new,hs2]⟩
    ·exact⟨j,by omega,by rw[h.rest j hj hjf,hb]⟩
  cases hx:bt (X0 (Zz p f s).r0 (p.n0+1)) i<;>cases hy:bt (X0 p.r0 p.n0) i
  ·rfl
  ·rw[key.2 hy]at hx;cases hx
  ·rw[key.1 hx]at hy;cases hy
  ·rfl
 have hc':JQ (p.n0+1) (Zz p f s).r0=0:=ZkA.2 ⟨hok',by rw[hall];exact hpre⟩
 have hpp:Zz p f s=⟨p.n0+1,(Zz p f s).r0⟩:=by rw[<- h.n0]
 refine⟨?_,?_,hn3⟩
 ·rw[hpp,ZgS _ (by omega) (by omega)];exact hc'
 ·rw[hpp,ZgT _ (by omega) (by omega)]
  show cpsP (p.n0+1) (Zz p f s).r0=V.toInt (WA ⟨p.n0,p.r0⟩)
  rw[ZgT _ hn0 (by omega)]
  unfold cpsP
  rw[hc',hchk,hall]
theorem join_ok_(hs:inU s)(hp:∀j,j<p.n0->inU (p.r0 j).f0)(hn:p.n0<=5)(h:Zep p f s):Jt (Zz p f s) (p.n0:Int) f=0/\(Yu (Zz p f s) (p.n0:Int) f).n0=p.n0/\∀j,j<p.n0->((Yu (Zz p f s) (p.n0:Int) f).r0 j).f0=(p.r0 j).f0:=by
 obtain⟨hc,_,hn3⟩:=ZmF hs hp hn h
 have hfn:zi f<p.n0:=by have:=h.lo;have:=h.hi;omega
 generalize hq:Zz p f s=q at hc
 have qn:q.n0=p.n0+1:=by rw[<- hq];exact h.n0
 have c1:(bif V.toInt (Wo q) != (0:Int)then ze else za)=za:=by rw[hc];rfl
 have c2:(bif (bif (bif decide ((p.n0:Int)<(0:Int))then ze else decide ((p.n0:Int)>=((q.n0:Nat):Int)))then ze else za)then ze else za)=za:=by
  rw[decide_eq_false (by omega),decide_eq_false (by omega)];rfl
 have c3:(bif (bif (bif decide (f<(0:Int))then ze else decide (f>=((q.n0:Nat):Int)))then ze else za)then ze else za)=za:=by
  have:=h.lo;have:=h.hi
  rw[decide_eq_false (by omega),decide_eq_false (by omega)];rfl
 have c4:(bif (p.n0:Int)==f then ze else za)=za:=by
  have:((p.n0:Int)==f)=za:=by have:=h.hi;simp;omega
  rw[this];rfl
 have hw:zy .i64 ((p.n0:Int)+1)=(p.n0:Int)+1:=IntWalk.i64_in _ ⟨by omega,by omega⟩
 have hv:(ZgU q (p.n0:Int) f).valOf=V.tup (zf (zH (zf (zl za 1 (zi (p.n0:Int)+(q.n0-zi (zy .i64 ((p.n0:Int)+1)))) λj=>bif zK ((0:Nat)+zi ((zi (p.n0:Int)+(q.n0-zi (zy .i64 ((p.n0:Int)+1))):Nat):Int)) ((0:Nat)+j)&&zG ((0:Nat)+j) ((0:Nat)+zi ((zi (p.n0:Int)+(q.n0-zi (zy .i64 ((p.n0:Int)+1))):Nat):Int)+(zi ((q.n0:Nat):Int)-zi ((zi (p.n0:Int)+(q.n0-zi (zy .i64 ((p.n0:Int)+1))):Nat):Int)))then zf (zn ze .u32 (0:Int)) zh else bif zK ((0:Nat)+zi (p.n0:Int)) ((0:Nat)+j)&&zG ((0:Nat)+j) ((0:Nat)+zi (p.n0:Int)+(q.n0-zi (zy .i64 ((p.n0:Int)+1))))then _ else bif zo ((0:Nat)+j) ((0:Nat)+zi f)then zf (zn za .u32 (or2 (q.r0 (0+zi f)).f0 (q.r0 (0+zi (p.n0:Int))).f0)) zh else zf (zn za .u32 (q.r0 ((0:Nat)+j)).f0) zh) zh)) (zf (zn ze .i64 (0:Int)) zh)):=cF c1 (cF c2 (cF c3 (cF c4 rfl)))
 refine⟨?_,?_,λj hj=>?_⟩
 ·unfold Jt;rw[hv];rfl
 ·unfold Yu;rw[hv]
  show zi (p.n0:Int)+(q.n0-zi (zy .i64 ((p.n0:Int)+1)))=p.n0
  rw[hw,qn];omega
 ·have hr:(Yu q (p.n0:Int) f).r0 j=Yq (bif zo j (zi f)then zf (zn za .u32 (or2 (q.r0 (zi f)).f0 (q.r0 p.n0).f0)) zh else zf (zn za .u32 (q.r0 j).f0) zh):=by
   unfold Yu;rw[hv]
   show Yq (bif _ then _ else bif _ then _ else bif zo ((0:Nat)+j) ((0:Nat)+zi f)then _ else _)=_
   rw[hw,qn]
   simp only[z8,Int.toNat_natCast,show zi ((p.n0:Int)+1)=p.n0+1 by omega,Nat.sub_self,Nat.add_zero]
   rw[ZhK (show ¬p.n0<=j by omega)]
   rfl
  rw[hr]
  by_cases hjf:j=f.toNat
  ·subst hjf
   rw[Nat.beq_refl]
   show or2 (q.r0 (zi f)).f0 (q.r0 p.n0).f0=_
   rw[<- hq,h.old,h.new]
   refine Ze5 (or_U _ _) (hp _ hfn) λi hi=>?_
   rw[bt_or,ZaG _ _ hi]
   cases hb:bt s i
   ·simp
   ·have h1:=U6.1 h.within i hi
    have h2:=U6.1 h.sub i hi
    rw[Zcn,hb,Bool.true_and]at h1
    rw[hb,Bool.true_and]at h2
    have h3:bt 255 i=ze:=by cases hq:bt 255 i;rw[hq]at h2;cases h2;rfl
    rw[h3,Bool.true_and]at h1
    cases hq:bt (p.r0 f.toNat).f0 i
    ·rw[hq]at h1;cases h1
    ·rfl
  ·rw[Zck hjf]
   show(q.r0 j).f0=_
   rw[<- hq,h.rest j hj hjf]
theorem Zrt{a b:Zg}(hn:a.n0=b.n0)(h:∀j,j<a.n0->(a.r0 j).f0=(b.r0 j).f0):ZbA a b=ze:=by
 have e1:ZbA a b=ZcK a.n0 a.r0 b.n0 b.r0:=by kernel_rfl
 have e2:ZcK a.n0 a.r0 b.n0 b.r0=V.toBool (bif (bif (a.n0:Int) != (b.n0:Int)then ze else za)then zC ze za else bif (bif Zv (Zek a.n0 a.r0 b.n0 b.r0) a.n0 then ze else za)then zC ze za else zC ze ze):=by kernel_rfl
 have e3:Zv (Zek a.n0 a.r0 b.n0 b.r0) a.n0=za:=Jy λk hk=>by
  show(bif (bif (bif (a.r0 k).f0 != (b.r0 k).f0 then ze else za)then ze else za)then ze else za)=za
  rw[h k hk];simp
 rw[e1,e2,e3,hn];simp only[bne_self_eq_false,cond_false];rfl
def ZW(e:Za)(p:Zg)(o:Nat->Zj)(n:Nat)(q:Nat->ZA)(la:Int):Za:={ e with n2:=p.n0,r2:=p.r0,r6:=o,n12:=n,r12:=q,f13:=la }
def plS(e:Za):Zg:=⟨e.n2,e.r2⟩
def V4(e:Za)(o:Nat->Zj):Prop:=∀j,o j=e.r6 j\/∃x,o j={ e.r6 j with f8:=x,f9:=0 }
section
variable{e:Za}{p:Zg}{o:Nat->Zj}{n:Nat}{q:Nat->ZA}{la:Int}
theorem Zi4(h:V4 e o)(j:Nat):(o j).f0=(e.r6 j).f0:=by rcases h j with h|⟨x,h⟩<;>rw[h]
theorem like_st(h:V4 e o)(j:Nat):(o j).f1=(e.r6 j).f1/\(o j).f2=(e.r6 j).f2/\(o j).f3=(e.r6 j).f3/\(o j).f4=(e.r6 j).f4:=by rcases h j with h|⟨x,h⟩<;>(rw[h];exact⟨rfl,rfl,rfl,rfl⟩)
theorem Zjc(h:V4 e o):(Zh (ZW e p o n q la)).oh=(Zh e).oh/\(Zh (ZW e p o n q la)).og=(Zh e).og:=by
 have hs:Zad (ZW e p o n q la)=Zad e:=by
  funext k z
  show((λj_=>bif j_==(o k).f0 then ze else z.1 j_),(λj_=>bif j_==(o k).f0 then((k:Nat):Int)else z.2 j_))=((λj_=>bif j_==(e.r6 k).f0 then ze else z.1 j_),(λj_=>bif j_==(e.r6 k).f0 then((k:Nat):Int)else z.2 j_))
  rw[Zi4 h k]
 have ha:X6 (ZW e p o n q la) e.n6=X6 e e.n6:=by
  unfold X6;rw[hs]
 exact⟨congrArg Prod.fst ha,congrArg Prod.snd ha⟩
def stripW(d:Zf):Zf:={ d with a:={ d.a with n2:=0,r2:=λ_=>⟨0⟩,r6:=λj=>⟨0,(d.a.r6 j).f1,(d.a.r6 j).f2,(d.a.r6 j).f3,(d.a.r6 j).f4,0,0,0,0,0,0⟩,n12:=0,r12:=λ_=>⟨0,0⟩,f13:=0 },nh:=λ_=>za,ng:=λ_=>0 }
theorem ZmU(d:Zf):Vt d=Vt (stripW d):=by kernel_rfl
theorem ZqI(h:V4 e o):Vt (Zh (ZW e p o n q la))=Vt (Zh e):=by
 rw[ZmU (Zh (ZW e p o n q la)),ZmU (Zh e)]
 congr 1
 have h1:=Zjc (p:=p) (n:=n) (q:=q) (la:=la) h
 have h6:(λj=>(⟨0,(o j).f1,(o j).f2,(o j).f3,(o j).f4,0,0,0,0,0,0⟩:Zj))=λj=>⟨0,(e.r6 j).f1,(e.r6 j).f2,(e.r6 j).f3,(e.r6 j).f4,0,0,0,0,0,0⟩:=funext λj=>by
  have:=like_st h j
  rw[this.1,this.2.1,this.2.2.1,this.2.2.2]
 show(Zf.mk { e with n2:=0,r2:=λ_=>⟨0⟩,r6:=λj=>⟨0,(o j).f1,(o j).f2,(o j).f3,(o j).f4,0,0,0,0,0,0⟩,n12:=0,r12:=λ_=>⟨0,0⟩,f13:=0 } (Zh (ZW e p o n q la)).oh (Zh (ZW e p o n q la)).og (λ_=>za) (λ_=>0) (Zh e).hh (Zh e).hg)=_
 rw[h1.1,h1.2,h6]
 rfl
theorem mod_parts(h:Uc (Zh e)=ze)(hp:V.toInt (Wo p)=0)(hla:la<=JZ):Uc (Zh (ZW e p o n q la))=ze:=by
 have h1:=Xc h
 have h2:=Xc h1.1
 have h3:=Xc h2.1
 have h4:=Xc h3.2
 have h5:=Xc h2.2
 have h6:=Xc h5.2
 have b1:(bif decide (e.f0>=(0:Int))then bif decide (e.f0<=(1125899906842624:Int))then decide (la<=(4611686018427387904:Int))else za else za)=ze:=by
  have c1:decide (e.f0>=(0:Int))=ze:=h3.1
  have c2:decide (e.f0<=(1125899906842624:Int))=ze:=h4.1
  have c3:decide (la<=(4611686018427387904:Int))=ze:=decide_eq_true hla
  rw[c1,c2,c3];rfl
 refine cT (cT b1 (cT h5.1 (cT ?_ h6.2))) h1.2
 show(V.toInt (Wo p)==(0:Int))=ze
 rw[hp];rfl
theorem ZqG(hf:ZK e=0)(h3:e.n3<=1000)(h4:e.n4<=1000)(hp:V.toInt (WA p)=V.toInt (WA (plS e)))(hn:e.n2<=p.n0)(hm:∀j,j<e.n4->JF p e j≠0):UW (Zh (ZW e p o n q la))=ze:=by
 have h:=(WO hf).2.1
 have h1:=fT h
 have h2:=fT h1.2
 have b1:(bif (bif V.toInt (WA p) != V.toInt (ZdW ⟨e.n1,e.r1⟩)then ze else((e.n7:Nat):Int) != ((e.n3:Nat):Int))then ze else za)=za:=by
  rw[hp];exact h1.1
 refine cF b1 (cF ?_ (cF ?_ rfl))
 ·have e0:=XI (nf4 h2.1)
  have b2:Zv (JW (Zh (ZW e p o n q la))) e.n3=za:=Jy λk hk=>by
   have g:=orF (e0 k hk)
   have gp:=(ZcY hf k hk).2
   refine cF (decide_eq_false ?_) g.2
   show ¬(e.r3 k).f3>=((p.n0:Nat):Int)
   omega
  show(bif Zv (JW (Zh (ZW e p o n q la))) e.n3 then ze else za)=za
  rw[b2];rfl
 ·have b3:Zv (G7 (Zh (ZW e p o n q la))) e.n4=za:=Jy λk hk=>by
   have eq:G7 (Zh (ZW e p o n q la)) k=bif (bif (bif YX (X4 (guO e) (e.r4 k).f0) (p.r0 (zi (e.r3 (zi (Xy (Zh e) (e.r4 k).f0))).f3)).f0==(0:Int)then ze else za)then ze else za)then ze else za:=by kernel_rfl
   rw[eq,Zag hf h3 h4 p hk]
   have:=hm k hk
   simp[this]
  show(bif Zv (G7 (Zh (ZW e p o n q la))) e.n4 then ze else za)=za
  rw[b3];rfl
end
def own2(w:Zj):Bool:=(bif bif bif !bif decide (w.f1>=(0:Int))then bif decide (w.f1<=(3:Int))then bif decide (w.f2>=(0:Int))then bif decide (w.f2<=(15:Int))then bif decide (w.f4>=(0:Int))then decide (w.f4<=(1125899906842624:Int))else za else za else za else za else za then ze else !(bif w.f3 != (0:Int)then ze else w.f4 != (0:Int))==(w.f1==(3:Int))then ze else za then(270:Int)else(0:Int))==(0:Int)
def own3(w:Zj):Bool:=(bif bif bif bif bif !bif decide (w.f7>=(1:Int))then decide (w.f7<=(65535:Int))else za then ze else decide (w.f5>=(68719476736:Int))then ze else za then ze else za then ze else za then(150:Int)else(0:Int))==(0:Int)
theorem ZcX(h:ZK a=0):∀k,k<a.n6->UM (Zh a) k=za:=XI (nf4 (fT (fT (WO h).2.2.1).2).1)
theorem ZgR(h:UM d k=za):(bif (XH d k).1 (d.a.r6 k).f8 then(XH d k).2 (d.a.r6 k).f8 else za)=za/\(d.a.r6 k).f8<=d.a.f13/\
  XH d (k+1)=((λj=>bif j==(d.a.r6 k).f8 then ze else(XH d k).1 j),(λj=>bif j==(d.a.r6 k).f8 then ze else(XH d k).2 j)):=by
 have h1:=Jg rfl h
 have h2:=Jg rfl h1.2
 have h3:=Jg rfl h2.2
 have h4:=Jg rfl h3.2
 have h5:=Jg rfl h4.2
 have h6:=Jg rfl h5.2
 have h7:=Jg rfl h6.2
 have h8:=nf4 h7.2
 refine⟨?_,of_decide_eq_true h5.1,?_⟩
 ·have:=h4.1
  revert this
  show(!bif (XH d k).1 (d.a.r6 k).f8 then(XH d k).2 (d.a.r6 k).f8 else za)=ze->_
  cases(bif (XH d k).1 (d.a.r6 k).f8 then(XH d k).2 (d.a.r6 k).f8 else za)
  ·exact λ_=>rfl
  ·intro q;cases q
 ·exact cT h1.1 (cT h2.1 (cT h3.1 (cT h4.1 (cT h5.1 (cT h6.1 (cT h7.1 (cF h8 rfl)))))))
theorem own_met(h:ZK a=0):∀k,k<=a.n6->((XH (Zh a) k).1 0=ze/\(XH (Zh a) k).2 0=ze)/\∀j,j<k->(XH (Zh a) k).1 (a.r6 j).f8=ze/\(XH (Zh a) k).2 (a.r6 j).f8=ze:=by
 intro k
 induction k with
 |zero=>intro _;exact⟨⟨rfl,rfl⟩,λj hj=>absurd hj (yB _)⟩
 |succ k ih=>
  intro hk
  have ih:=ih (by omega)
  have ht:=ZgR (ZcX h k (by omega))
  rw[ht.2.2]
  have up:∀x,(XH (Zh a) k).1 x=ze/\(XH (Zh a) k).2 x=ze->(bif x==(a.r6 k).f8 then ze else(XH (Zh a) k).1 x)=ze/\(bif x==(a.r6 k).f8 then ze else(XH (Zh a) k).2 x)=ze:=λx hx=>by
   rw[hx.1,hx.2];cases x==(a.r6 k).f8<;>exact⟨rfl,rfl⟩
  refine⟨up 0 ih.1,λj hj=>?_⟩
  rcases yE (Nat.le_of_lt_succ hj)with e|e
  ·subst e
   show(bif (a.r6 j).f8==(a.r6 j).f8 then ze else _)=ze/\(bif (a.r6 j).f8==(a.r6 j).f8 then ze else _)=ze
   simp
  ·exact up _ (ih.2 j e)
theorem ZiH(h:ZK a=0):(∀j,j<a.n6->(a.r6 j).f8≠0/\(a.r6 j).f8<=a.f13)/\∀i j,i≠j->i<a.n6->j<a.n6->(a.r6 i).f8≠(a.r6 j).f8:=by
 have ap:∀i j,i<j->j<a.n6->(a.r6 i).f8≠(a.r6 j).f8:=λi j hij hj e=>by
  have ht:=(ZgR (ZcX h j hj)).1
  have hm:=(own_met h j (by omega)).2 i hij
  rw[e]at hm
  change (bif (XH (Zh a) j).1 (a.r6 j).f8 then(XH (Zh a) j).2 (a.r6 j).f8 else za)=za at ht
  rw[hm.1,hm.2]at ht
  cases ht
 refine⟨λj hj=>⟨λe=>?_,(ZgR (ZcX h j hj)).2.1⟩,λi j hne hi hj=>?_⟩
 ·have ht:=(ZgR (ZcX h j hj)).1
  have hm:=(own_met h j (by omega)).1
  change (bif (XH (Zh a) j).1 (a.r6 j).f8 then(XH (Zh a) j).2 (a.r6 j).f8 else za)=za at ht
  rw[e,hm.1,hm.2]at ht
  cases ht
 ·rcases Nat.lt_or_gt_of_ne hne with q|q
  ·exact ap i j q hj
  ·exact(ap j i q hi).symm
section
variable{e:Za}{p:Zg}{o:Nat->Zj}{n:Nat}{q:Nat->ZA}{la:Int}
theorem met_only(d:Zf):∀k x,(XH d k).1 x=ze->x=0\/∃j,j<k/\(d.a.r6 j).f8=x:=by
 intro k
 induction k with
 |zero=>
  intro x hx
  have hx:(bif x==0 then ze else za)=ze:=hx
  cases e:(x==0)
  ·rw[e]at hx;cases hx
  ·exact .inl (eqT e)
 |succ k ih=>
  intro x hx
  have hx:(Zjj d k (XH d k)).1 x=ze:=hx
  generalize XH d k=z at ih hx
  let Qp:(Int->Bool)×(Int->Bool)->Prop:=λy=>y.1 x=ze->z.1 x=ze\/x=(d.a.r6 k).f8
  have key:Qp (Zjj d k z):=by
   have hz:Qp (z.1,z.2):=λh=>.inl h
   have ha:Qp ((λj_=>bif j_==(d.a.r6 k).f8 then ze else z.1 j_),(λj_=>bif j_==(d.a.r6 k).f8 then ze else z.2 j_)):=λh=>by
    have h:(bif x==(d.a.r6 k).f8 then ze else z.1 x)=ze:=h
    cases e:(x==(d.a.r6 k).f8)
    ·rw[e]at h;exact .inl h
    ·exact .inr (eqT e)
   exact WI (p:=Qp) (WI (p:=Qp) (WI (p:=Qp) (WI (p:=Qp) (WI (p:=Qp) (WI (p:=Qp) (WI (p:=Qp) (WI (p:=Qp) hz ha) hz) hz) hz) hz) hz) hz) hz
  rcases key hx with h|h
  ·rcases ih x h with h|⟨j,hj,h⟩
   ·exact .inl h
   ·exact .inr ⟨j,by omega,h⟩
  ·exact .inr ⟨k,by omega,h.symm⟩
theorem mod_owned(hf:ZK e=0)(hl:V4 e o)(ho:∀i j,i≠j->i<e.n6->j<e.n6->(o i).f8≠(o j).f8)(ht:∀j,j<e.n6->(o j).f8<=la/\(o j).f8≠0):UY (Zh (ZW e p o n q la))=ze:=by
 have hv:=fT (WO hf).2.2.1
 have b:Zv (UM (Zh (ZW e p o n q la))) e.n6=za:=Jy λk hk=>by
  have h:=ZcX hf k hk
  have h1:=Jg rfl h
  have h2:=Jg rfl h1.2
  have h3:=Jg rfl h2.2
  have h4:=Jg rfl h3.2
  have h5:=Jg rfl h4.2
  have h6:=Jg rfl h5.2
  have h7:=Jg rfl h6.2
  have h8:=nf4 h7.2
  have g1:=Xc (show(bif decide (zy .i64 ((e.r6 k).f9-(1000000:Int))<=e.f0)then bif decide ((e.r6 k).f10>=(0:Int))then decide ((e.r6 k).f10<=e.f0)else za else za)=ze from nT (nf4 h8))
  have hnow:0<=e.f0:=by
   have hp:=(WO hf).1
   have h1:=Xc hp
   have h3:=Xc (Xc h1.1).1
   exact of_decide_eq_true h3.1
  have met:(!bif (XH (Zh (ZW e p o n q la)) k).1 (o k).f8 then(XH (Zh (ZW e p o n q la)) k).2 (o k).f8 else za)=ze:=by
   cases hm:(XH (Zh (ZW e p o n q la)) k).1 (o k).f8
   ·rfl
   ·rcases met_only _ k _ hm with h|⟨j,hj,h⟩
    ·exact absurd h (ht k hk).2
    ·exact absurd h (ho j k (by omega) (by omega) hk)
  have e5:decide ((o k).f8<=la)=ze:=decide_eq_true (ht k hk).1
  have run10:(o k).f10=(e.r6 k).f10:=by rcases hl k with q|⟨x,q⟩<;>rw[q]
  have e1:((o k).f0==(e.r4 k).f0)=ze:=by rw[Zi4 hl k];exact h1.1
  have e6:((o k).f7==zy .u64 (e.r3 (zi (Xy (Zh e) (e.r4 k).f0))).f1)=ze:=by
   have:(o k).f7=(e.r6 k).f7:=by rcases hl k with q|⟨x,q⟩<;>rw[q]
   rw[this];exact h6.1
  have e7:decide ((o k).f9>=(0:Int))=ze:=by
   rcases hl k with q|⟨x,q⟩<;>rw[q]
   ·exact h7.1
   ·rfl
  have e8:(bif (bif !bif decide (zy .i64 ((o k).f9-(1000000:Int))<=e.f0)then bif decide ((o k).f10>=(0:Int))then decide ((o k).f10<=e.f0)else za else za then ze else za)then ze else za)=za:=by
   rw[run10,g1.2]
   have:decide (zy .i64 ((o k).f9-(1000000:Int))<=e.f0)=ze:=by
    rcases hl k with q|⟨x,q⟩<;>rw[q]
    ·exact g1.1
    ·refine decide_eq_true ?_
     show zy .i64 ((0:Int)-1000000)<=e.f0
     rw[IntWalk.i64_in _ ⟨by omega,by omega⟩];omega
   rw[this];rfl
  have e2:own2 (o k)=ze:=by
   have h:own2 (e.r6 k)=ze:=h2.1
   rcases hl k with q|⟨x,q⟩<;>(rw[q];exact h)
  have e3:own3 (o k)=ze:=by
   have h:own3 (e.r6 k)=ze:=h3.1
   rcases hl k with q|⟨x,q⟩<;>(rw[q];exact h)
  exact cT e1 (cT e2 (cT e3 (cT met (cT e5 (cT e6 (cT e7 e8))))))
 have hnn:(bif ((e.n6:Nat):Int) != ((e.n4:Nat):Int)then ze else za)=za:=hv.1
 refine cF hnn (cF ?_ rfl)
 show(bif Zv (UM (Zh (ZW e p o n q la))) e.n6 then ze else za)=za
 rw[b];rfl
end
section
variable{e:Za}{p:Zg}{o:Nat->Zj}{n:Nat}{q:Nat->ZA}{la:Int}
variable{k:Nat}
theorem Zdr(hf:ZK e=0){s:Nat}(hk:k<e.n5)(hs:s<(e.r5 k).n1):(Zh e).oh ((e.r5 k).r1 s).f0=ze/\Xy (Zh e) ((e.r5 k).r1 s).f0=Xy (Zh e) ((e.r5 k).r1 0).f0:=
 ga2_parts ((Zlm (Zk9 hf k hk)).1 s hs)
theorem ZqF(hf:ZK e=0)(h3:e.n3<=1000)(h4:e.n4<=1000)(hl:V4 e o)(hr:YH p (guO e) (gaO e)=ze):Zat (Zh (ZW e p o n q la))=ze:=by
 have hm:=Zjc (p:=p) (n:=n) (q:=q) (la:=la) hl
 have b:Zv (Uw (Zh (ZW e p o n q la))) e.n5=za:=Jy λk hk=>by
  have no2:∀s,s<(e.r5 k).n1->VO (Zh (ZW e p o n q la)) (e.r5 k).n1 (e.r5 k).r1 s=za:=λs hs=>by
   have:=Zdr hf hk hs
   exact ga2_none (by rw[hm.1];exact this.1) this.2
  have hmk:=Zli no2
  rw[ga1_eq]
  refine cF ?_ ?_
  ·show(bif Zv (VO (Zh (ZW e p o n q la)) (e.r5 k).n1 (e.r5 k).r1) (e.r5 k).n1 then ze else za)=za
   rw[Jy no2];rfl
  ·have hg:=((ZdM (Kr hf)).1 hr).2 k hk
   have hc:Ql (WJ (Zh (ZW e p o n q la)) (e.r5 k).n1 (e.r5 k).r1 (e.r5 k).n1).1 (λj=>(WJ (Zh (ZW e p o n q la)) (e.r5 k).n1 (e.r5 k).r1 (e.r5 k).n1).2 (0+j))=ze:=by
    rw[hmk.1]
    rw[Zf1 (b:=λs=>⟨Yb p (guO e) ((e.r5 k).r1 s).f0⟩) λj hj=>?_]
    ·exact hg
    ·rw[z8,hmk.2 j hj]
     obtain⟨i,hi,hv⟩:=UN hf (Zdr hf hk hj).1
     have:=Zag hf h3 h4 p hi
     rw[hv]at this
     unfold JF at this
     rw[hv]at this
     exact congrArg Zq.mk this
   show(bif (bif !Ql (WJ (Zh (ZW e p o n q la)) (e.r5 k).n1 (e.r5 k).r1 (e.r5 k).n1).1 (λj=>(WJ (Zh (ZW e p o n q la)) (e.r5 k).n1 (e.r5 k).r1 (e.r5 k).n1).2 (0+j))then ze else za)then ze else za)=za
   rw[hc];rfl
 refine cF ?_ rfl
 show(bif Zv (Uw (Zh (ZW e p o n q la))) e.n5 then ze else za)=za
 rw[b];rfl
def UE(d:Zf)(v:Int):Int:=YX (X4 (guO d.a) v) (d.a.r2 (zi (d.a.r3 (zi (Xy d v))).f3)).f0
def pl1'(d:Zf)(k:Nat):Bool:=bif decide ((d.a.r12 k).f1<=Qe d k)then ze else bif (bif d.nh (d.a.r12 k).f0 then d.ng (d.a.r12 k).f0 else 0) != (d.a.r12 k).f1 then ze else bif (bif !d.oh (d.a.r12 k).f0 then ze else za)then ze else bif !Q5 (stO (d.a.r6 (Js d (d.a.r12 k).f0).toNat))then ze else bif ZeD (d.a.r7 (Xy d (d.a.r12 k).f0).toNat)then ze else
 bif (bif (bif decide ((d.a.r12 k).f1<(0:Int))then ze else decide ((d.a.r12 k).f1>=(8:Int)))then ze else za)then(bif (bif !YX (UE d (d.a.r12 k).f0) 0 != (0:Int)then ze else za)then ze else za)else(bif (bif !YX (UE d (d.a.r12 k).f0) (zy .u32 ((1:Int)*(2:Int)^min (zi (d.a.r12 k).f1) (zR .u32))) != (0:Int)then ze else za)then ze else za)
theorem pl1_eq(d:Zf)(k:Nat):KC d k=pl1' d k:=by kernel_rfl
variable{d:Zf}
theorem Zmu(h:KC d k=za):Q5 (stO (d.a.r6 (Js d (d.a.r12 k).f0).toNat))=ze/\ZeD (d.a.r7 (Xy d (d.a.r12 k).f0).toNat)=za/\QT (UE d (d.a.r12 k).f0) (d.a.r12 k).f1=ze:=by
 rw[pl1_eq]at h
 have h3:=orF (orF (orF (orF h).2).2).2
 have h4:=orF h3.2
 refine⟨nT h3.1,h4.1,?_⟩
 have h5:=h4.2
 unfold QT
 revert h5
 cases(bif decide ((d.a.r12 k).f1<(0:Int))then ze else decide ((d.a.r12 k).f1>=(8:Int)))
 ·cases(YX (UE d (d.a.r12 k).f0) (zy .u32 ((1:Int)*(2:Int)^min (zi (d.a.r12 k).f1) (zR .u32))) != (0:Int))
  ·intro h;cases h
  ·exact λ_=>rfl
 ·cases(YX (UE d (d.a.r12 k).f0) 0 != (0:Int))
  ·intro h;cases h
  ·exact λ_=>rfl
theorem put_build(h0:Qe d k<(d.a.r12 k).f1)(h1:d.nh (d.a.r12 k).f0=ze/\d.ng (d.a.r12 k).f0=(d.a.r12 k).f1)(h2:d.oh (d.a.r12 k).f0=ze)(h3:Q5 (stO (d.a.r6 (Js d (d.a.r12 k).f0).toNat))=ze)(h4:ZeD (d.a.r7 (Xy d (d.a.r12 k).f0).toNat)=za)(h5:QT (UE d (d.a.r12 k).f0) (d.a.r12 k).f1=ze):KC d k=za:=by
 rw[pl1_eq]
 refine cF (decide_eq_false (by omega)) (cF ?_ (cF ?_ (cF ?_ (cF h4 ?_))))
 ·rw[h1.1,h1.2];simp
 ·rw[h2];rfl
 ·rw[h3];rfl
 ·unfold QT at h5
  revert h5
  cases(bif decide ((d.a.r12 k).f1<(0:Int))then ze else decide ((d.a.r12 k).f1>=(8:Int)))
  ·cases(YX (UE d (d.a.r12 k).f0) (zy .u32 ((1:Int)*(2:Int)^min (zi (d.a.r12 k).f1) (zR .u32))) != (0:Int))
   ·intro h;cases h
   ·exact λ_=>rfl
  ·cases(YX (UE d (d.a.r12 k).f0) 0 != (0:Int))
   ·intro h;cases h
   ·exact λ_=>rfl
variable{a:Za}
theorem fine_pl2(h:ZK a=0):∀k,k<a.n6->Zan (Zh a) k=za:=XI (nf4 (fT (fT (WO h).2.2.2.2.2).2).1)
theorem fine_pl3(h:ZK a=0):∀k,k<a.n5->Zao (Zh a) k=za:=XI (nf4 (fT (fT (fT (WO h).2.2.2.2.2).2).2).1)
theorem pl2_eq(d:Zf)(k:Nat):Zan d k=bif (bif (bif (bif !d.nh (d.a.r6 k).f0 then decide ((d.a.r6 k).f9>d.a.f0)else za)then ze else za)then ze else za)then ze else za:=by kernel_rfl
theorem pl3_eq(d:Zf)(k:Nat):Zao d k=bif (bif (bif (bif decide ((J2 d (d.a.r5 k).n1 (d.a.r5 k).r1 (d.a.r5 k).n1).1>(0:Int))then decide ((J2 d (d.a.r5 k).n1 (d.a.r5 k).r1 (d.a.r5 k).n1).2>(0:Int))else za)then ze else za)then ze else za)then ze else za:=by kernel_rfl
variable{r:Nat->DT3}
theorem pl4_none{m:Nat}(h:∀s,s<m->d.nh (r s).f0=za):∀k,k<=m->(J2 d m r k).1=0:=by
 intro k
 induction k with
 |zero=>intro _;rfl
 |succ k ih=>
  intro hk
  show(bif d.nh (r k).f0 then zy .i64 ((J2 d m r k).1+(1:Int))else(J2 d m r k).1)=0
  rw[h k (by omega)]
  exact ih (by omega)
def stripG(d:Zf)(m:Nat)(r:Nat->DT3)(k:Nat):Bool×Bool×YD:=(d.nh (r k).f0,d.oh (r k).f0,stO (d.a.r6 (Js d (r k).f0).toNat))
def pl4F(x:Bool×Bool×YD)(z:Int×Int):Int×Int:=(bif x.1 then zy .i64 (z.1+1)else z.1,bif x.1 then z.2 else bif (bif !x.2.1 then ze else za)then z.2 else bif Q5 x.2.2 then zy .i64 (z.2+1)else z.2)
theorem Zmm(d:Zf)(m:Nat)(r:Nat->DT3)(k:Nat)(z:Int×Int):Zg0 d m r k z=pl4F (stripG d m r k) z:=by kernel_rfl
theorem pl4_congr{d':Zf}{m:Nat}(h:∀s,s<m->stripG d m r s=stripG d' m r s):∀k,k<=m->J2 d m r k=J2 d' m r k:=by
 intro k
 induction k with
 |zero=>intro _;rfl
 |succ k ih=>
  intro hk
  show Zg0 d m r k (J2 d m r k)=Zg0 d' m r k (J2 d' m r k)
  rw[Zmm,Zmm,ih (by omega),h k (by omega)]
structure Zem(e:Za)(p:Zg)(o:Nat->Zj)(n:Nat)(q:Nat->ZA):Prop where
 sub:∃f:Nat->Nat,(∀i,i<n->f i<e.n12/\q i=e.r12 (f i))/\∀i j,i<j->j<n->f i<f j
 has:∀i,i<n->QT (Yb p (guO e) (q i).f0) (q i).f1=ze
 until_:∀j,j<e.n6->(∀i,i<n->(q i).f0≠(e.r6 j).f0)->(o j).f9<=e.f0
 gang:∀k,k<e.n5->(∀s,s<(e.r5 k).n1->((∃i,i<n/\(q i).f0=((e.r5 k).r1 s).f0)↔∃i,i<e.n12/\(e.r12 i).f0=((e.r5 k).r1 s).f0))\/∀s,s<(e.r5 k).n1->¬ ∃i,i<n/\(q i).f0=((e.r5 k).r1 s).f0
theorem Zbu(a:Za)(x:Int):(Zh a).nh x=ze↔∃i,i<a.n12/\(a.r12 i).f0=x:=
 ⟨λh=>by obtain⟨k,hk,e,_⟩:=(Zgn a).1 x h;exact⟨k,hk,e⟩,λ⟨i,hi,e⟩=>by rw[<- e];exact(Zgn a).2 i hi⟩
theorem Zjq(h:ZK a=0){i j:Nat}(hi:i<a.n12)(hj:j<a.n12)(e:(a.r12 i).f0=(a.r12 j).f0):i=j:=by
 have p1:(bif (Zh a).nh (a.r12 i).f0 then(Zh a).ng (a.r12 i).f0 else 0)=(a.r12 i).f1:=(UO (Zh a) i (Ut h i hi)).2.2.1
 have p2:(bif (Zh a).nh (a.r12 j).f0 then(Zh a).ng (a.r12 j).f0 else 0)=(a.r12 j).f1:=(UO (Zh a) j (Ut h j hj)).2.2.1
 have ec:(a.r12 i).f1=(a.r12 j).f1:=by rw[<- p1,<- p2,e]
 rcases Nat.lt_trichotomy i j with q|q|q
 ·have:=put_lt h q hj;omega
 ·exact q
 ·have:=put_lt h q hi;omega
theorem ZqH(hf:ZK e=0)(h3:e.n3<=1000)(h4:e.n4<=1000)(hl:V4 e o)(hq:Zem e p o n q):Zau (Zh (ZW e p o n q la))=ze:=by
 have hm:=Zjc (p:=p) (n:=n) (q:=q) (la:=la) hl
 obtain⟨f,hf1,hf2⟩:=hq.sub
 have inj:∀i j,i<n->j<n->(q i).f0=(q j).f0->i=j:=λi j hi hj hv=>by
  rw[(hf1 i hi).2,(hf1 j hj).2]at hv
  have:=Zjq hf (hf1 i hi).1 (hf1 j hj).1 hv
  rcases Nat.lt_trichotomy i j with w|w|w
  ·have:=hf2 i j w hj;omega
  ·exact w
  ·have:=hf2 j i w hi;omega
 have rise:∀i j,i<j->j<n->(q i).f1<(q j).f1:=λi j hij hj=>by
  rw[(hf1 i (by omega)).2,(hf1 j hj).2]
  exact put_lt hf (hf2 i j hij hj) (hf1 j hj).1
 have ge0:∀i,i<n->0<=(q i).f1:=λi hi=>by
  rw[(hf1 i hi).2]
  exact((Zjr hf e.n12 (zJ _)).2 _ (hf1 i hi).1).2
 have ix:∀v,Js (Zh (ZW e p o n q la)) v=Js (Zh e) v:=λv=>by unfold Js;rw[hm.1,hm.2]
 have st:∀j,stO (o j)=stO (e.r6 j):=λj=>by
  have:=like_st hl j
  unfold stO;rw[this.1,this.2.1,this.2.2.1,this.2.2.2]
 have one:∀i,i<n->Qe (Zh (ZW e p o n q la)) i<(q i).f1->KC (Zh (ZW e p o n q la)) i=za:=λi hi hlt=>by
  have he:=hf1 i hi
  have hb:=Ut hf (f i) he.1
  have ht:=Zmu hb
  have ho:(Zh e).oh (e.r12 (f i)).f0=ze:=(UO (Zh e) (f i) hb).2.2.2.1
  refine put_build hlt ?_ ?_ ?_ ?_ ?_
  ·have hn:(Zh (ZW e p o n q la)).nh (q i).f0=ze:=(Zbu (ZW e p o n q la) _).2 ⟨i,hi,rfl⟩
   refine⟨hn,?_⟩
   obtain⟨k,hk,ek,vk⟩:=(Zgn (ZW e p o n q la)).1 _ hn
   have:k=i:=inj k i hk hi ek
   subst this
   exact vk
  ·show(Zh (ZW e p o n q la)).oh (q i).f0=ze
   rw[hm.1,he.2];exact ho
  ·show Q5 (stO (o (Js (Zh (ZW e p o n q la)) (q i).f0).toNat))=ze
   rw[ix,st,he.2];exact ht.1
  ·show ZeD (e.r7 (Xy (Zh e) (q i).f0).toNat)=za
   rw[he.2];exact ht.2.1
  ·show QT (YX (X4 (guO e) (q i).f0) (p.r0 (zi (e.r3 (zi (Xy (Zh e) (q i).f0))).f3)).f0) (q i).f1=ze
   obtain⟨j,hj,hv⟩:=UN hf ho
   have hmv:=Zag hf h3 h4 p hj
   unfold JF at hmv
   rw[hv,<- he.2]at hmv
   rw[hmv]
   exact hq.has i hi
 have all1:∀i,i<=n->-1<=Qe (Zh (ZW e p o n q la)) i/\(∀j,j<i->KC (Zh (ZW e p o n q la)) j=za)/\(i<n->Qe (Zh (ZW e p o n q la)) i<(q i).f1):=by
  intro i
  induction i with
  |zero=>intro _;exact⟨Int.le_refl _,λj hj=>absurd hj (yB _),λhn=>by have:=ge0 0 hn;show(-1:Int)<_;omega⟩
  |succ i ih=>
   intro hi
   have ih:=ih (by omega)
   have hb:=one i (by omega) (ih.2.2 (by omega))
   have hp:=(UO (Zh (ZW e p o n q la)) i hb).2.1
   have hp:Qe (Zh (ZW e p o n q la)) (i+1)=(q i).f1:=hp
   have:=ge0 i (by omega)
   refine⟨by omega,λj hj=>?_,λhn=>?_⟩
   ·rcases yE (Nat.le_of_lt_succ hj)with w|w
    ·subst w;exact hb
    ·exact ih.2.1 j w
   ·rw[hp];exact rise i (i+1) (by omega) hn
 have b1:Zv (KC (Zh (ZW e p o n q la))) n=za:=Jy (all1 n (zJ _)).2.1
 have b2:Zv (Zan (Zh (ZW e p o n q la))) e.n6=za:=Jy λj hj=>by
  rw[pl2_eq]
  have h2:(bif !(Zh (ZW e p o n q la)).nh (o j).f0 then decide ((o j).f9>e.f0)else za)=za:=by
   rw[Zi4 hl j]
   cases hn:(Zh (ZW e p o n q la)).nh (e.r6 j).f0
   ·show decide ((o j).f9>e.f0)=za
    refine decide_eq_false ?_
    have:=hq.until_ j hj λi hi hv=>by
     rw[(Zbu (ZW e p o n q la) _).2 ⟨i,hi,hv⟩]at hn;cases hn
    omega
   ·rfl
  show(bif (bif (bif (bif !(Zh (ZW e p o n q la)).nh (o j).f0 then decide ((o j).f9>e.f0)else za)then ze else za)then ze else za)then ze else za)=za
  rw[h2];rfl
 have b3:Zv (Zao (Zh (ZW e p o n q la))) e.n5=za:=Jy λk hk=>by
  rw[pl3_eq]
  show(bif (bif (bif (bif decide ((J2 (Zh (ZW e p o n q la)) (e.r5 k).n1 (e.r5 k).r1 (e.r5 k).n1).1>(0:Int))then decide ((J2 (Zh (ZW e p o n q la)) (e.r5 k).n1 (e.r5 k).r1 (e.r5 k).n1).2>(0:Int))else za)then ze else za)then ze else za)then ze else za)=za
  rcases hq.gang k hk with h|h
  ·have hc:=pl4_congr (d:=Zh (ZW e p o n q la)) (d':=Zh e) (m:=(e.r5 k).n1) (r:=(e.r5 k).r1) (λs hs=>by
    have hn:(Zh (ZW e p o n q la)).nh ((e.r5 k).r1 s).f0=(Zh e).nh ((e.r5 k).r1 s).f0:=by
     have h1:=Zbu (ZW e p o n q la) ((e.r5 k).r1 s).f0
     have h2:=Zbu e ((e.r5 k).r1 s).f0
     cases hx:(Zh (ZW e p o n q la)).nh ((e.r5 k).r1 s).f0<;>cases hy:(Zh e).nh ((e.r5 k).r1 s).f0
     ·rfl
     ·rw[h1.2 ((h s hs).2 (h2.1 hy))]at hx;cases hx
     ·rw[h2.2 ((h s hs).1 (h1.1 hx))]at hy;cases hy
     ·rfl
    show((Zh (ZW e p o n q la)).nh ((e.r5 k).r1 s).f0,(Zh (ZW e p o n q la)).oh ((e.r5 k).r1 s).f0,stO (o (Js (Zh (ZW e p o n q la)) ((e.r5 k).r1 s).f0).toNat))=_
    rw[hn,hm.1,ix,st];rfl) (e.r5 k).n1 (zJ _)
   rw[hc]
   have:=fine_pl3 hf k hk
   rw[pl3_eq]at this
   exact this
  ·have hz:=pl4_none (d:=Zh (ZW e p o n q la)) (m:=(e.r5 k).n1) (r:=(e.r5 k).r1) (λs hs=>by
    cases hx:(Zh (ZW e p o n q la)).nh ((e.r5 k).r1 s).f0
    ·rfl
    ·exact absurd ((Zbu (ZW e p o n q la) _).1 hx) (h s hs)) (e.r5 k).n1 (zJ _)
   rw[hz];rfl
 refine cF ?_ (cF ?_ (cF ?_ rfl))
 ·show(bif Zv (KC (Zh (ZW e p o n q la))) n then ze else za)=za
  rw[b1];rfl
 ·show(bif Zv (Zan (Zh (ZW e p o n q la))) e.n6 then ze else za)=za
  rw[b2];rfl
 ·show(bif Zv (Zao (Zh (ZW e p o n q la))) e.n5 then ze else za)=za
  rw[b3];rfl
theorem mod_chk(hf:ZK e=0)(h3:e.n3<=1000)(h4:e.n4<=1000)(hl:V4 e o)(hp:V.toInt (Wo p)=0)(hc:V.toInt (WA p)=V.toInt (WA (plS e)))(hn:e.n2<=p.n0)(hr:YH p (guO e) (gaO e)=ze)
  (ho:∀i j,i≠j->i<e.n6->j<e.n6->(o i).f8≠(o j).f8)(ht:∀j,j<e.n6->(o j).f8<=la/\(o j).f8≠0)(hla:la<=JZ)(hq:Zem e p o n q):ZK (ZW e p o n q la)=0:=by
 unfold ZK
 rw[mod_parts (WO hf).1 hp hla,ZqG hf h3 h4 hc hn (λj hj=>((ZdM (Kr hf)).1 hr).1 j hj),mod_owned hf hl ho ht,ZqF hf h3 h4 hl hr,ZqI hl,(WO hf).2.2.2.2.1,ZqH hf h3 h4 hl hq]
 rfl
end
abbrev Yl(e:Za)(p:Zg):OfZ:=Xz p (guO e) (gaO e) e.n6 e.r6 e.n12 e.r12 e.f13
abbrev QG(e:Za)(p:Zg):Bool:=Wn p (guO e) (gaO e) e.n6 e.r6 e.n12 e.r12 e.f13
def XM(e:Za)(p:Zg):Za:=ZW e p (Yl e p).2.1 (Yl e p).2.2.1 (Yl e p).2.2.2 (Yl e p).1
variable{e:Za}
theorem Zil(h1:XE (plS e) f s=0)(h2:YH (Zz (plS e) f s) (guO e) (gaO e)=ze)(h3:QG e (Zz (plS e) f s)=za) :
  Vh f s e=0/\Vg f s e=QW (plS e) f s/\GA f s e=XM e (Zz (plS e) f s):=by
 have c1:(bif XE (plS e) f s==(0:Int)then !YH (Zz (plS e) f s) (guO e) (gaO e)else za)=za:=by rw[h1,h2];rfl
 have c2:(XE (plS e) f s==(0:Int))=ze:=by rw[h1];rfl
 have c3:(bif QG e (Zz (plS e) f s)then ze else za)=za:=by rw[h3];rfl
 have hv:(VH f s e Zz QW XE YH Wn Xz XV).valOf=_:=cF c1 (cT c2 (cF c3 rfl))
 refine⟨?_,?_,?_⟩
 ·unfold Vh;rw[hv];rfl
 ·unfold Vg;rw[hv];rfl
 ·have e1:GA f s e=ZW e (Zz (plS e) f s) (λj=>(Yl e (Zz (plS e) f s)).2.1 (0+j)) (Yl e (Zz (plS e) f s)).2.2.1 (λj=>(Yl e (Zz (plS e) f s)).2.2.2 (0+j)) (Yl e (Zz (plS e) f s)).1:=by
   exact Eq.trans (congrArg (λv:V=>Z4 v.inner.hd.inner) hv) (by kernel_rfl)
  rw[e1]
  unfold XM
  simp only[z8]
theorem doS_no(h:¬(XE (plS e) f s=0/\YH (Zz (plS e) f s) (guO e) (gaO e)=ze/\QG e (Zz (plS e) f s)=za)):Vh f s e≠0/\Vg f s e=0/\GA f s e=zS:=by
 by_cases h1:XE (plS e) f s=0
 ·cases h2:YH (Zz (plS e) f s) (guO e) (gaO e)with
  |false=>
   have c1:(bif XE (plS e) f s==(0:Int)then !YH (Zz (plS e) f s) (guO e) (gaO e)else za)=ze:=by rw[h1,h2];rfl
   have hv:(VH f s e Zz QW XE YH Wn Xz XV).valOf=_:=cT c1 rfl
   refine⟨λq=>?_,?_,Eq.trans (congrArg (λv:V=>Z4 v.inner.hd.inner) hv) (by kernel_rfl)⟩
   ·unfold Vh at q;rw[hv]at q
    have q:(8:Int)=0:=q
    omega
   ·unfold Vg;rw[hv];rfl
  |true=>
   cases h3:QG e (Zz (plS e) f s)with
   |false=>exact absurd ⟨h1,h2,h3⟩ h
   |true=>
    have c1:(bif XE (plS e) f s==(0:Int)then !YH (Zz (plS e) f s) (guO e) (gaO e)else za)=za:=by rw[h1,h2];rfl
    have c2:(XE (plS e) f s==(0:Int))=ze:=by rw[h1];rfl
    have c3:(bif QG e (Zz (plS e) f s)then ze else za)=ze:=by rw[h3];rfl
    have hv:(VH f s e Zz QW XE YH Wn Xz XV).valOf=_:=cF c1 (cT c2 (cT c3 rfl))
    refine⟨λq=>?_,?_,Eq.trans (congrArg (λv:V=>Z4 v.inner.hd.inner) hv) (by kernel_rfl)⟩
    ·unfold Vh at q;rw[hv]at q
     have q:(6:Int)=0:=q
     omega
    ·unfold Vg;rw[hv];rfl
 ·have e0:(XE (plS e) f s==(0:Int))=za:=by simp[h1]
  have c1:(bif XE (plS e) f s==(0:Int)then !YH (Zz (plS e) f s) (guO e) (gaO e)else za)=za:=by rw[e0];rfl
  have c4:(XE (plS e) f s != (0:Int))=ze:=by rw[bne,e0];rfl
  have hv:(VH f s e Zz QW XE YH Wn Xz XV).valOf=_:=cF c1 (cF e0 (cT c4 rfl))
  refine⟨λq=>?_,?_,Eq.trans (congrArg (λv:V=>Z4 v.inner.hd.inner) hv) (by kernel_rfl)⟩
  ·unfold Vh at q;rw[hv]at q
   exact h1 q
  ·unfold Vg;rw[hv];rfl
theorem doJ_yes{k:Int}(h2:YH (Yu (plS e) k f) (guO e) (gaO e)=ze)(h3:QG e (Yu (plS e) k f)=za) :
  Gz k f e=0/\Gy k f e=XM e (Yu (plS e) k f):=by
 have c1:(!YH (Yu (plS e) k f) (guO e) (gaO e))=za:=by rw[h2];rfl
 have c3:(bif QG e (Yu (plS e) k f)then ze else za)=za:=by rw[h3];rfl
 have hv:(Za3 k f e Yu YH Wn Xz XV).valOf=_:=cF c1 (cF c3 rfl)
 refine⟨?_,?_⟩
 ·unfold Gz;rw[hv];rfl
 ·have e1:Gy k f e=ZW e (Yu (plS e) k f) (λj=>(Yl e (Yu (plS e) k f)).2.1 (0+j)) (Yl e (Yu (plS e) k f)).2.2.1 (λj=>(Yl e (Yu (plS e) k f)).2.2.2 (0+j)) (Yl e (Yu (plS e) k f)).1:=by
   exact Eq.trans (congrArg (λv:V=>Z4 v.inner.hd.inner) hv) (by kernel_rfl)
  rw[e1]
  unfold XM
  simp only[z8]
end Go.Proofs.YthhbdbeglmkijaaGreatDoor
end
