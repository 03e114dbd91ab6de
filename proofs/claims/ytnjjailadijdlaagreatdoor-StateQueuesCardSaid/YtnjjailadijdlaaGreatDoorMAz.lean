/- view's method: vGanged -/
import Derived.Test.YtnjjailadijdlaaGreatDoorMAy
import Derived.Test.YtnjjailadijdlaaGreatDoorMAu
import Derived.Test.YtnjjailadijdlaaGreatDoorMAs
import Derived.Test.YtnjjailadijdlaaGreatDoorMAo
import Derived.Test.YtnjjailadijdlaaGreatDoorMAv
set_option maxRecDepth 100000
set_option linter.unusedVariables false
set_option linter.unusedSimpArgs false
noncomputable section
namespace Go.Proofs.YtnjjailadijdlaaGreatDoor
open Go.Fw
def vGanged_T (d:Zc):Tree (V×List Blk):=
 let q3:=(V.rsl false 2 d.a.n5 fun j=>ZE false (d.a.r5 j))
 let q0:=(V.cons (V.rsl false 2 d.a.n1 fun j=>Yk false (d.a.r1 j)) (V.cons (V.rsl false 1 d.a.n2 fun j=>V.cons (V.int false .u32 (d.a.r2 j).f0) V.nil) (V.cons (V.rsl false 4 d.a.n3 fun j=>Zm false (d.a.r3 j)) (V.cons (V.rsl false 4 d.a.n4 fun j=>Zk false (d.a.r4 j)) (V.cons q3 (V.cons (V.rsl false 11 d.a.n6 fun j=>ZT false (d.a.r6 j)) (V.cons (V.rsl false 2 d.a.n7 fun j=>ZN false (d.a.r7 j)) (V.cons (V.rsl false 5 d.a.n8 fun j=>ZG false (d.a.r8 j)) (ci d.a.f9 (V.cons (V.rsl false 2 d.a.n10 fun j=>Zr false (d.a.r10 j)) (V.cons (V.rsl false 3 d.a.n11 fun j=>Zl false (d.a.r11 j)) (V.cons (V.rsl false 2 d.a.n12 fun j=>Yq false (d.a.r12 j)) (V.cons (V.int false .u64 d.a.f13) (V.cons (V.mp 1) (V.cons (V.mp 2) (V.cons (V.mp 3) V.nil))))))))))))))))
 let q1:=[Blk.var (ZM d.a),Blk.Ze (MK.int .i64) false (fun k=>(d.2 (Za k),vi (d.3 (Za k)))) none,Blk.Ze (MK.int .i64) false (fun k=>(d.4 (Za k),vi (d.5 (Za k)))) none,Blk.Ze (MK.int .i64) false (fun k=>(d.6 (Za k),vi (d.7 (Za k)))) none]
 let q2:=(V.cons (V.bool false false) (V.cons q3 (ci ((d.a.n5:Nat):Int) (ci (0:Int) V.nil))))
 Tree.need (V.cons (V.ptr false 0 0 0 0) q2 = V.cons (V.ptr false 0 0 0 0) q2/\ci d.a.f0 q0 = ci d.a.f0 q0/\(IntKind.i64 = IntKind.i64/\ZX .i64 (fun x=>(d.2 (Za x),vi (d.3 (Za x)))) fun k=>(d.2 (Za k),vi (d.3 (Za k))))/\(IntKind.i64 = IntKind.i64/\ZX .i64 (fun x=>(d.4 (Za x),vi (d.5 (Za x)))) fun k=>(d.4 (Za k),vi (d.5 (Za k))))/\(IntKind.i64 = IntKind.i64/\ZX .i64 (fun x=>(d.6 (Za x),vi (d.7 (Za x)))) fun k=>(d.6 (Za k),vi (d.7 (Za k))))/\True) (Tree.node (bif Zp (Zej d) d.a.n5 then true else false) (Tree.leaf (V.bool true false,q1)) (Tree.leaf (V.bool true true,q1)))
theorem Zkb (d:Zc):evH (Zn P [XU,Uu] [Zdz d] true) 400 65 (.cons (.ptr true 0 0 0 0) .nil) (ZV d) = vGanged_T d:=by kernel_rfl
def Gv (d:Zc):Bool:=
  (bif bif Zp (Zej d) d.a.n5 then true else false then (false) else (true))
theorem Zmh (d:Zc) (h0:d.a.n3<=1000) (h1:d.a.n4<=1000) (h2:d.a.n5<=1000) (h3:∀ j,j < d.a.n5->0 < (d.a.r5 j).n1/\(d.a.r5 j).n1<=8) (h4:∀ j,(d.a.r5 j).n1<=1000) (h5:∀ j:Int,d.oh j = true->0<=d.og j/\d.og j < d.a.n6) (h6:d.a.n6 = d.a.n4) (h7:0 < d.a.n4->∀ j:Int,0<=(bif d.hh j then d.hg j else 0)/\(bif d.hh j then d.hg j else 0) < d.a.n3) (h8:0 < d.a.n4->∀ j:Int,0<=(d.a.r3 (bif d.hh j then d.hg j else 0).toNat).f3/\(d.a.r3 (bif d.hh j then d.hg j else 0).toNat).f3 < d.a.n2):Xb P 65 (.cons (.ptr true 0 0 0 0) .nil) (ZV d) (.leaf (.bool false (Gv d),ZV d)):=by
 refine VO (E:=(Zn P [XU,Uu] [Zdz d] true)) (Zu hm hn (l:=[XU,Uu]) ⟨KW,Zgg,trivial⟩ (ls:=[Zdz d]) ⟨ga1_lp_ok d h2 h3 h4 h5 h6 h0 h1 h7 h8,trivial⟩ true) (Zkb d) ((cC rfl rfl)) ⟨⟨rfl,rfl⟩,⟨rfl,rfl⟩⟩ ?_
 refine ⟨?_,⟨fun hb0=>trivial,fun hb0=>trivial⟩⟩
 all_goals ((repeat' (first | exact ga1_fit d | exact rfl | exact fun _=>⟨rfl,rfl⟩ | apply And.intro | intro _)); all_goals (try simp only [decide_eq_true_eq,decide_eq_false_iff_not] at *); all_goals (first | omega | exact ga1_fit d))
def UF:HK:=fun args bl=>match args,bl with
 | (.cons (.ptr true 0 0 0 0) .nil),[.var c,.Ze (.int .i64) _ fo _,.Ze (.int .i64) _ fn _,.Ze (.int .i64) _ fh _]=>some (c.WT fun c=>.need (KP c fo fn fh/\(fun (d:Zc)=>d.a.n3<=1000) (ZF c fo fn fh)/\(fun (d:Zc)=>d.a.n4<=1000) (ZF c fo fn fh)/\(fun (d:Zc)=>d.a.n5<=1000) (ZF c fo fn fh)/\(fun (d:Zc)=>∀ j,j < d.a.n5->0 < (d.a.r5 j).n1/\(d.a.r5 j).n1<=8) (ZF c fo fn fh)/\(fun (d:Zc)=>∀ j,(d.a.r5 j).n1<=1000) (ZF c fo fn fh)/\(fun (d:Zc)=>∀ j:Int,d.oh j = true->0<=d.og j/\d.og j < d.a.n6) (ZF c fo fn fh)/\(fun (d:Zc)=>d.a.n6 = d.a.n4) (ZF c fo fn fh)/\(fun (d:Zc)=>0 < d.a.n4->∀ j:Int,0<=(bif d.hh j then d.hg j else 0)/\(bif d.hh j then d.hg j else 0) < d.a.n3) (ZF c fo fn fh)/\(fun (d:Zc)=>0 < d.a.n4->∀ j:Int,0<=(d.a.r3 (bif d.hh j then d.hg j else 0).toNat).f3/\(d.a.r3 (bif d.hh j then d.hg j else 0).toNat).f3 < d.a.n2) (ZF c fo fn fh)) (.leaf (.bool false (Gv (ZF c fo fn fh)),ZV (ZF c fo fn fh))))
 | _,_=>none
theorem ZjG:Xj P 65 UF:=by
 intro args bl T hT
 unfold UF at hT
 split at hT
 ·rename_i c q1 fo q2 q3 fn q4 q5 fh q6
  injection hT with hT
  subst hT
  intro base mm F w xs Q KK h1 h2 hq hk
  simp only [V.Qw] at hq
  obtain ⟨hp,hq⟩:=hq
  exact Xb.le (bl:=[.var c,.Ze (.int .i64) q1 fo q2,.Ze (.int .i64) q3 fn q4,.Ze (.int .i64) q5 fh q6]) (Zmh (ZF c fo fn fh) hp.2.1 hp.2.2.1 hp.2.2.2.1 hp.2.2.2.2.1 hp.2.2.2.2.2.1 hp.2.2.2.2.2.2.1 hp.2.2.2.2.2.2.2.1 hp.2.2.2.2.2.2.2.2.1 hp.2.2.2.2.2.2.2.2.2) rfl (fun b=>Vr hp.1 b) base mm F w xs Q KK h1 h2 hq hk
 ·cases hT
abbrev Za0 (d:Zc) (i:Int) (z:Unit):V:=(.cons (.ptr true 0 0 0 0) (.cons (.bool true false) (.cons (.rsl false 5 (Zb.n8 (Zc.a d)) (fun j=>ZG false ((Zc.a d).r8 j))) (.cons (.int false .i64 (((Zb.n8 (Zc.a d)):Nat):Int)) (.cons (.int false .i64 i) .nil)))))
abbrev Zau (d:Zc) (i:Int) (z:Unit):List Blk:=[.var (ZM d.a),mO d,mN d,mH d]
def wt1_R (d:Zc) (i:Int) (z:Unit):Tree Rd:=
 let q0:=(V.rsl false 5 d.a.n8 fun jj=>ZG false (d.a.r8 jj))
 Tree.need (((0:Int)<=i/\i < ((d.a.n8:Nat):Int))/\((bif !d.2 (d.a.r8 (Int.toNat i)).f1 then true else false) = false->((0:Int)<=bif d.2 (d.a.r8 (Int.toNat i)).f1 then d.3 (d.a.r8 (Int.toNat i)).f1 else (0:Int))/\(bif d.2 (d.a.r8 (Int.toNat i)).f1 then d.3 (d.a.r8 (Int.toNat i)).f1 else (0:Int)) < ((d.a.n6:Nat):Int))) (Tree.node (bif bif !d.2 (d.a.r8 (Int.toNat i)).f1 then true else false then true else false) (Tree.leaf (Ex.ret,true,V.cons (pt 0) (V.cons (V.bool true false) (V.cons q0 (ci ((d.a.n8:Nat):Int) (ci i V.nil)))),[Blk.var (ZM d.a),mO d,mN d,mH d])) (Tree.leaf (Ex.normal,true,V.cons (pt 0) (V.cons (V.bool true false) (V.cons q0 (ci ((d.a.n8:Nat):Int) (ci (IntKind.wrap .i64 (i + (1:Int))) V.nil)))),[Blk.var (ZM d.a),mO d,mN d,mH d])))
theorem wt1_round (d:Zc):Yp P (Zn P [] [] true) 66 4 4 4 103 [0,2,32,33,34] [(0,.own),(1,.own),(2,.own),(3,.own)] [] (Za0 d) (Zau d) (fun i=>(bif decide (i < ((d.a.n8:Nat):Int)) then false else true)) (.exit 0) (wt1_R d):=fun B i z=>by kernel_rfl
def Zfk (d:Zc) (k:Nat):Bool:=(wt1_R d k ()).early
abbrev wt1_ets (d:Zc) (i:Int) (z:Unit):V:=(.cons (V.ptr true 0 0 0 0) (.cons (V.bool true false) (.cons (V.rsl false 5 d.a.n8 fun jj=>ZG false (d.a.r8 jj)) (.cons (V.int false .i64 ((d.a.n8:Nat):Int)) (.cons .junk .nil)))))
def ZdQ (d:Zc):Lp:=lpL 66 4 4 4 103 [0,2,32,33,34] [(0,.own),(1,.own),(2,.own),(3,.own)] [] (Za0 d) (Zau d) (.exit 0) .ret () (fun _=>()) (Zfk d) (Zb.n8 (Zc.a d)) (wt1_ets d) (Zau d)
def wt1_need (d:Zc):Prop:=YP 4 [] (Za0 d) (Zau d) () (Za0 d (0:Nat) ()) (Zau d (0:Nat) ())
theorem wt1_fit (d:Zc):wt1_need d:=⟨rfl,⟨rfl,⟨rfl,fun _=>⟨rfl,rfl⟩⟩,⟨rfl,fun _=>⟨rfl,rfl⟩⟩,⟨rfl,fun _=>⟨rfl,rfl⟩⟩,trivial⟩⟩
theorem wt1_lp_ok (d:Zc) (hl:d.a.n8<=1000) (hO:∀ j:Int,d.oh j = true->0<=d.og j/\d.og j < d.a.n6):(ZdQ d).Ok P:=by
 refine Y4 (Zu hm hn (l:=[]) trivial (ls:=[]) trivial true) rfl (by kernel_rfl) (wt1_round d) exN YB (fun _=>rfl) (step:=fun _ z=>z) (rd:=(fun _ t y=>())) (fun i z=>rfl) (fun i=>rfl) rfl (fun i hlt hg=>?_) (fun i z hi=>?_)
 ·have hltI:(i:Int) < (((Zb.n8 (Zc.a d)):Nat):Int):=by omega
  refine ⟨?_,⟨fun hb0=>trivial,fun hb0=>trivial⟩⟩
  all_goals (repeat' (first | exact rfl | exact fun _=>⟨rfl,rfl⟩ | apply And.intro | intro _))
  all_goals (try simp only [decide_eq_true_eq,decide_eq_false_iff_not,Bool.not_eq_true',Bool.not_eq_false'] at *)
  all_goals (try simp (disch:=omega) only [IntWalk.i64_in])
  all_goals (first | omega | exact (WO ‹_› (hO _)).1 | exact (WO ‹_› (hO _)).2)
 ·have hw:=(IntWalk.i64_in ((i:Int) + 1) ⟨by omega,by omega⟩)
  refine ⟨?_,?_⟩
  all_goals (first | exact ⟨rfl,YD (ts:=Za0 d) (a:=()) hw rfl,Z7 _⟩ | exact ⟨rfl,rfl,(by repeat' (first | exact Le.refl _ | exact Le.junk _ rfl | apply Le.cons)),Z7 _⟩)
abbrev Zar (d:Zc) (i:Int) (z:Unit):V:=(.cons (.ptr true 0 0 0 0) (.cons (.bool true false) (.cons (.rsl false 3 (Zb.n11 (Zc.a d)) (fun j=>Zl false ((Zc.a d).r11 j))) (.cons (.int false .i64 (((Zb.n11 (Zc.a d)):Nat):Int)) (.cons (.int false .i64 i) .nil)))))
abbrev Zap (d:Zc) (i:Int) (z:Unit):List Blk:=[.var (ZM d.a),mO d,mN d,mH d]
def wt2_R (d:Zc) (i:Int) (z:Unit):Tree Rd:=
 let q0:=(V.rsl false 3 d.a.n11 fun jj=>Zl false (d.a.r11 jj))
 Tree.need (((0:Int)<=i/\i < ((d.a.n11:Nat):Int))/\((bif !d.2 (d.a.r11 (Int.toNat i)).f0 then true else false) = false->((0:Int)<=bif d.2 (d.a.r11 (Int.toNat i)).f0 then d.3 (d.a.r11 (Int.toNat i)).f0 else (0:Int))/\(bif d.2 (d.a.r11 (Int.toNat i)).f0 then d.3 (d.a.r11 (Int.toNat i)).f0 else (0:Int)) < ((d.a.n6:Nat):Int))) (Tree.node (bif bif !d.2 (d.a.r11 (Int.toNat i)).f0 then true else false then true else false) (Tree.leaf (Ex.ret,true,V.cons (pt 0) (V.cons (V.bool true false) (V.cons q0 (ci ((d.a.n11:Nat):Int) (ci i V.nil)))),[Blk.var (ZM d.a),mO d,mN d,mH d])) (Tree.leaf (Ex.normal,true,V.cons (pt 0) (V.cons (V.bool true false) (V.cons q0 (ci ((d.a.n11:Nat):Int) (ci (IntKind.wrap .i64 (i + (1:Int))) V.nil)))),[Blk.var (ZM d.a),mO d,mN d,mH d])))
theorem wt2_round (d:Zc):Yp P (Zn P [] [] true) 66 10 4 4 103 [0,2,49,50,51] [(0,.own),(1,.own),(2,.own),(3,.own)] [] (Zar d) (Zap d) (fun i=>(bif decide (i < ((d.a.n11:Nat):Int)) then false else true)) (.exit 2) (wt2_R d):=fun B i z=>by kernel_rfl
def Zfc (d:Zc) (k:Nat):Bool:=(wt2_R d k ()).early
abbrev wt2_ets (d:Zc) (i:Int) (z:Unit):V:=(.cons (V.ptr true 0 0 0 0) (.cons (V.bool true false) (.cons (V.rsl false 3 d.a.n11 fun jj=>Zl false (d.a.r11 jj)) (.cons (V.int false .i64 ((d.a.n11:Nat):Int)) (.cons .junk .nil)))))
def ZcK (d:Zc):Lp:=lpL 66 10 4 4 103 [0,2,49,50,51] [(0,.own),(1,.own),(2,.own),(3,.own)] [] (Zar d) (Zap d) (.exit 2) .ret () (fun _=>()) (Zfc d) (Zb.n11 (Zc.a d)) (wt2_ets d) (Zap d)
def wt2_need (d:Zc):Prop:=YP 4 [] (Zar d) (Zap d) () (Zar d (0:Nat) ()) (Zap d (0:Nat) ())
theorem wt2_fit (d:Zc):wt2_need d:=⟨rfl,⟨rfl,⟨rfl,fun _=>⟨rfl,rfl⟩⟩,⟨rfl,fun _=>⟨rfl,rfl⟩⟩,⟨rfl,fun _=>⟨rfl,rfl⟩⟩,trivial⟩⟩
theorem wt2_lp_ok (d:Zc) (hl:d.a.n11<=1000) (hO:∀ j:Int,d.oh j = true->0<=d.og j/\d.og j < d.a.n6):(ZcK d).Ok P:=by
 refine Y4 (Zu hm hn (l:=[]) trivial (ls:=[]) trivial true) rfl (by kernel_rfl) (wt2_round d) exN YB (fun _=>rfl) (step:=fun _ z=>z) (rd:=(fun _ t y=>())) (fun i z=>rfl) (fun i=>rfl) rfl (fun i hlt hg=>?_) (fun i z hi=>?_)
 ·have hltI:(i:Int) < (((Zb.n11 (Zc.a d)):Nat):Int):=by omega
  refine ⟨?_,⟨fun hb0=>trivial,fun hb0=>trivial⟩⟩
  all_goals (repeat' (first | exact rfl | exact fun _=>⟨rfl,rfl⟩ | apply And.intro | intro _))
  all_goals (try simp only [decide_eq_true_eq,decide_eq_false_iff_not,Bool.not_eq_true',Bool.not_eq_false'] at *)
  all_goals (try simp (disch:=omega) only [IntWalk.i64_in])
  all_goals (first | omega | exact (WO ‹_› (hO _)).1 | exact (WO ‹_› (hO _)).2)
 ·have hw:=(IntWalk.i64_in ((i:Int) + 1) ⟨by omega,by omega⟩)
  refine ⟨?_,?_⟩
  all_goals (first | exact ⟨rfl,YD (ts:=Zar d) (a:=()) hw rfl,Z7 _⟩ | exact ⟨rfl,rfl,(by repeat' (first | exact Le.refl _ | exact Le.junk _ rfl | apply Le.cons)),Z7 _⟩)
abbrev ZaY (d:Zc) (b:Int) (x:Zq) (i:Int) (z:Unit):V:=(.cons (.rsl false 5 (Zb.n8 (Zc.a d)) (fun j=>ZG false ((Zc.a d).r8 j))) (.cons (.fn (Fn.func (255:Nat)) .nil (.cons (.ptr true (4:Nat) (0:Nat) (0:Nat) (0:Nat)) (.cons (.ptr true (5:Nat) (0:Nat) (0:Nat) (0:Nat)) .nil))) (.cons (.int true .i64 0) (.cons (.int false .i64 (((Zb.n8 (Zc.a d)):Nat):Int)) (.cons (.int false .i64 i) .nil)))))
abbrev ZaB (d:Zc) (b:Int) (x:Zq) (i:Int) (z:Unit):List Blk:=[.var (ZM d.a),mO d,mN d,mH d,.var (.cons (.int false .i64 (b)) .nil),.var (.cons (.int false .i64 (Zq.f0 x)) (.cons (.int false .i64 (Zq.f1 x)) (.cons (.int false .u32 (Zq.f2 x)) (.cons (.int false .i64 (Zq.f3 x)) .nil))))]
def th1_R (d:Zc) (b:Int) (x:Zq) (i:Int) (z:Unit):Tree Rd:=
 let q5:=(V.rsl false 5 d.a.n8 fun jj=>ZG false (d.a.r8 jj))
 let q3:=(V.fn (Fn.func (255:Nat)) V.nil (V.cons (pt 4) (V.cons (pt 5) V.nil)))
 let q2:=[Blk.var (ZM d.a),mO d,mN d,mH d,Blk.var (ci b V.nil),Blk.var (YT false x)]
 let q0:=(Tree.leaf (Ex.normal,true,V.cons q5 (V.cons q3 (V.cons (V.int true .i64 (0:Int)) (ci ((d.a.n8:Nat):Int) (ci (IntKind.wrap .i64 (i + (1:Int))) V.nil)))),q2))
 let q4:=((d.a.r8 (Int.toNat i)).f0 - (1:Int))
 let q1:=(IntKind.wrap .u32 ((BitVec.toNat (BitVec.ofInt (IntKind.bits .u32) (Int.fdiv x.f2 ((2:Int) ^ min (Int.toNat (IntKind.wrap .i64 q4)) (IntKind.bits .u32))) &&& BitVec.ofInt (IntKind.bits .u32) (1:Int)):Nat):Int) > (0:Int))
 Tree.need ((0:Int)<=i/\i < ((d.a.n8:Nat):Int)) (Tree.node (bif bif (d.a.r8 (Int.toNat i)).f1 != b then true else !(d.a.r8 (Int.toNat i)).b3 then true else false) q0 (Tree.need (((x.f0==(2:Int)) = true->(!(d.a.r8 (Int.toNat i)).b4) = false->(x.f0==(3:Int)) = true->(0:Int)<=IntKind.wrap .i64 q4)/\((x.f0==(2:Int)) = false->(x.f0==(3:Int)) = true->(0:Int)<=IntKind.wrap .i64 q4)) (Tree.node (bif bif x.f0==(2:Int) then bif !(d.a.r8 (Int.toNat i)).b4 then true else bif x.f0==(3:Int) then decide q1 else false else bif x.f0==(3:Int) then decide q1 else false then true else false) (Tree.leaf (Ex.ret,true,V.cons q5 (V.cons q3 (ci i (ci ((d.a.n8:Nat):Int) (ci i V.nil)))),q2)) q0)))
theorem th1_round (d:Zc) (b:Int) (x:Zq):Yp P (Zn P [] [] true) 302 2 6 6 19 [0,1,4,7,8] [(0,.own),(1,.own),(2,.own),(3,.own),(4,.own),(5,.own)] [] (ZaY d b x) (ZaB d b x) (fun i=>(bif decide (i < ((d.a.n8:Nat):Int)) then false else true)) (.exit 0) (th1_R d b x):=fun B i z=>by kernel_rfl
def ZeM (d:Zc) (b:Int) (x:Zq) (k:Nat):Bool:=(th1_R d b x k ()).early
abbrev th1_ets (d:Zc) (b:Int) (x:Zq) (i:Int) (z:Unit):V:=(.cons (V.rsl false 5 d.a.n8 fun jj=>ZG false (d.a.r8 jj)) (.cons (V.fn (Fn.func (255:Nat)) V.nil (V.cons (V.ptr true 4 0 0 0) (V.cons (V.ptr true 5 0 0 0) V.nil))) (.cons (V.int false .i64 i) (.cons (V.int false .i64 ((d.a.n8:Nat):Int)) (.cons .junk .nil)))))
def Zc1 (d:Zc) (b:Int) (x:Zq):Lp:=lpL 302 2 6 6 19 [0,1,4,7,8] [(0,.own),(1,.own),(2,.own),(3,.own),(4,.own),(5,.own)] [] (ZaY d b x) (ZaB d b x) (.exit 0) .ret () (fun _=>()) (ZeM d b x) (Zb.n8 (Zc.a d)) (th1_ets d b x) (ZaB d b x)
def th1_need (d:Zc) (b:Int) (x:Zq):Prop:=YP 6 [] (ZaY d b x) (ZaB d b x) () (ZaY d b x (0:Nat) ()) (ZaB d b x (0:Nat) ())
theorem th1_fit (d:Zc) (b:Int) (x:Zq):th1_need d b x:=⟨rfl,⟨rfl,⟨rfl,fun _=>⟨rfl,rfl⟩⟩,⟨rfl,fun _=>⟨rfl,rfl⟩⟩,⟨rfl,fun _=>⟨rfl,rfl⟩⟩,rfl,rfl,trivial⟩⟩
theorem th1_lp_ok (d:Zc) (b:Int) (x:Zq) (hl:d.a.n8<=1000) (hN:∀ j:Nat,j < d.a.n8->1<=(d.a.r8 j).f0/\(d.a.r8 j).f0<=32):(Zc1 d b x).Ok P:=by
 refine Y4 (Zu hm hn (l:=[]) trivial (ls:=[]) trivial true) rfl (by kernel_rfl) (th1_round d b x) exN YB (fun _=>rfl) (step:=fun _ z=>z) (rd:=(fun _ t y=>())) (fun i z=>rfl) (fun i=>rfl) rfl (fun i hlt hg=>?_) (fun i z hi=>?_)
 ·have hltI:(i:Int) < (((Zb.n8 (Zc.a d)):Nat):Int):=by omega
  refine ⟨?_,⟨fun hb0=>trivial,fun hb0=>⟨?_,⟨fun hb1=>trivial,fun hb1=>trivial⟩⟩⟩⟩
  all_goals (have hf0:=hN ((i:Int).toNat) (by omega))
  all_goals (repeat' (first | exact rfl | exact fun _=>⟨rfl,rfl⟩ | apply And.intro | intro _))
  all_goals (try simp only [decide_eq_true_eq,decide_eq_false_iff_not,Bool.not_eq_true',Bool.not_eq_false'] at *)
  all_goals (try simp (disch:=omega) only [IntWalk.i64_in])
  all_goals (first | omega)
 ·have hw:=(IntWalk.i64_in ((i:Int) + 1) ⟨by omega,by omega⟩)
  refine ⟨?_,⟨?_,?_⟩⟩
  all_goals (first | exact ⟨rfl,YD (ts:=ZaY d b x) (a:=()) hw rfl,Z7 _⟩ | exact ⟨rfl,rfl,(by repeat' (first | exact Le.refl _ | exact Le.junk _ rfl | apply Le.cons)),Z7 _⟩)
def vThere_T (d:Zc) (b:Int) (x:Zq):Tree (V×List Blk):=
 let q3:=(V.rsl false 5 d.a.n8 fun j=>ZG false (d.a.r8 j))
 let q0:=(V.cons (V.rsl false 2 d.a.n1 fun j=>Yk false (d.a.r1 j)) (V.cons (V.rsl false 1 d.a.n2 fun j=>V.cons (V.int false .u32 (d.a.r2 j).f0) V.nil) (V.cons (V.rsl false 4 d.a.n3 fun j=>Zm false (d.a.r3 j)) (V.cons (V.rsl false 4 d.a.n4 fun j=>Zk false (d.a.r4 j)) (V.cons (V.rsl false 2 d.a.n5 fun j=>ZE false (d.a.r5 j)) (V.cons (V.rsl false 11 d.a.n6 fun j=>ZT false (d.a.r6 j)) (V.cons (V.rsl false 2 d.a.n7 fun j=>ZN false (d.a.r7 j)) (V.cons q3 (ci d.a.f9 (V.cons (V.rsl false 2 d.a.n10 fun j=>Zr false (d.a.r10 j)) (V.cons (V.rsl false 3 d.a.n11 fun j=>Zl false (d.a.r11 j)) (V.cons (V.rsl false 2 d.a.n12 fun j=>Yq false (d.a.r12 j)) (V.cons (V.int false .u64 d.a.f13) (V.cons (V.mp 1) (V.cons (V.mp 2) (V.cons (V.mp 3) V.nil))))))))))))))))
 let q1:=[Blk.var (ZM d.a),Blk.Ze (MK.int .i64) false (fun k=>(d.2 (Za k),vi (d.3 (Za k)))) none,Blk.Ze (MK.int .i64) false (fun k=>(d.4 (Za k),vi (d.5 (Za k)))) none,Blk.Ze (MK.int .i64) false (fun k=>(d.6 (Za k),vi (d.7 (Za k)))) none]
 let q2:=(V.cons (V.fn (Fn.func (255:Nat)) V.nil (V.cons (V.ptr false 4 0 0 0) (V.cons (V.ptr false 5 0 0 0) V.nil))) (ci (0:Int) (ci ((d.a.n8:Nat):Int) (ci (0:Int) V.nil))))
 Tree.need (V.cons q3 q2 = V.cons q3 q2/\ci d.a.f0 q0 = ci d.a.f0 q0/\(IntKind.i64 = IntKind.i64/\ZX .i64 (fun x=>(d.2 (Za x),vi (d.3 (Za x)))) fun k=>(d.2 (Za k),vi (d.3 (Za k))))/\(IntKind.i64 = IntKind.i64/\ZX .i64 (fun x=>(d.4 (Za x),vi (d.5 (Za x)))) fun k=>(d.4 (Za k),vi (d.5 (Za k))))/\(IntKind.i64 = IntKind.i64/\ZX .i64 (fun x=>(d.6 (Za x),vi (d.7 (Za x)))) fun k=>(d.6 (Za k),vi (d.7 (Za k))))/\ci b V.nil = ci b V.nil/\YT false x = YT false x/\True) (Tree.node (bif Zp (ZeM d b x) d.a.n8 then true else false) (Tree.leaf (V.bool false true,q1)) (Tree.leaf (V.bool true false,q1)))
theorem Zl2 (d:Zc) (b:Int) (x:Zq):evH (Zn P [] [Zc1 d b x] true) 400 167 (.cons (.ptr true 0 0 0 0) (.cons (.int false .i64 b) (.cons (.agg (YT false x)) .nil))) (ZV d) = vThere_T d b x:=by kernel_rfl
def ZcR (d:Zc) (b:Int) (x:Zq):Bool:=
  (bif bif Zp (ZeM d b x) d.a.n8 then true else false then (true) else (false))
theorem vThere_at (d:Zc) (b:Int) (x:Zq) (h0:d.a.n8<=1000) (h1:∀ j:Nat,j < d.a.n8->1<=(d.a.r8 j).f0/\(d.a.r8 j).f0<=32):Xb P 167 (.cons (.ptr true 0 0 0 0) (.cons (.int false .i64 b) (.cons (.agg (YT false x)) .nil))) (ZV d) (.leaf (.bool false (ZcR d b x),ZV d)):=by
 refine VO (E:=(Zn P [] [Zc1 d b x] true)) (Zu hm hn (l:=[]) trivial (ls:=[Zc1 d b x]) ⟨th1_lp_ok d b x h0 h1,trivial⟩ true) (Zl2 d b x) ((cC rfl rfl)) ⟨⟨rfl,rfl⟩,⟨rfl,rfl⟩⟩ ?_
 refine ⟨?_,⟨fun hb0=>trivial,fun hb0=>trivial⟩⟩
 all_goals ((repeat' (first | exact th1_fit d b x | exact rfl | exact fun _=>⟨rfl,rfl⟩ | apply And.intro | intro _)); all_goals (try simp only [decide_eq_true_eq,decide_eq_false_iff_not] at *); all_goals (first | omega | exact th1_fit d b x))
def VB:HK:=fun args bl=>match args,bl with
 | (.cons (.ptr true 0 0 0 0) (.cons (.int _ .i64 b) (.cons (.agg cx) .nil))),[.var c,.Ze (.int .i64) _ fo _,.Ze (.int .i64) _ fn _,.Ze (.int .i64) _ fh _]=>some (c.WT fun c=>cx.WT fun cx=>.need (KP c fo fn fh/\(V.agg cx).soft = .agg (YT false (Y0 cx))/\(fun (d:Zc) (b:Int) (x:Zq)=>d.a.n8<=1000) (ZF c fo fn fh) (b) (Y0 cx)/\(fun (d:Zc) (b:Int) (x:Zq)=>∀ j:Nat,j < d.a.n8->1<=(d.a.r8 j).f0/\(d.a.r8 j).f0<=32) (ZF c fo fn fh) (b) (Y0 cx)) (.leaf (.bool false (ZcR (ZF c fo fn fh) (b) (Y0 cx)),ZV (ZF c fo fn fh))))
 | _,_=>none
theorem Zhm:Xj P 167 VB:=by
 intro args bl T hT
 unfold VB at hT
 split at hT
 ·rename_i q0 b cx c q1 fo q2 q3 fn q4 q5 fh q6
  injection hT with hT
  subst hT
  intro base mm F w xs Q KK h1 h2 hq hk
  simp only [V.Qw] at hq
  obtain ⟨hp,hq⟩:=hq
  exact Xb.le (bl:=[.var c,.Ze (.int .i64) q1 fo q2,.Ze (.int .i64) q3 fn q4,.Ze (.int .i64) q5 fh q6]) (vThere_at (ZF c fo fn fh) (b) (Y0 cx) hp.2.2.1 hp.2.2.2) rfl (fun b=>Vr hp.1 b) base mm F w xs Q KK h1 (RLsoft (a:=(.cons (.ptr true 0 0 0 0) (.cons (.int q0 .i64 b) (.cons (.agg cx) .nil)))) (b:=(.cons (.ptr true 0 0 0 0) (.cons (.int false .i64 b) (.cons (.agg (YT false (Y0 cx))) .nil)))) (show V.soft (.cons (.ptr true 0 0 0 0) (.cons (.int q0 .i64 b) (.cons (.agg cx) .nil))) = V.soft (.cons (.ptr true 0 0 0 0) (.cons (.int false .i64 b) (.cons (.agg (YT false (Y0 cx))) .nil))) from (congrArg (fun z=>(V.cons (V.ptr false 0 0 0 0) (V.cons (V.int false .i64 b) (V.cons (z) V.nil)))) hp.2.1)) h2) hq hk
 ·cases hT
def vSleeps_T (a:YS) (b:Int):Tree V:=
 let q3:=(V.rsl false 2 a.n1 fun j=>Zr false (a.3 j))
 let q0:=(ci a.f0 (V.cons q3 (V.cons (V.rsl false 3 a.n2 fun j=>Zl false (a.5 j)) V.nil)))
 let q1:=(ci a.f0 (V.cons q3 V.nil))
 let q2:=(IntKind.wrap .i64 (IntKind.wrap .i64 ((16:Int) + b) - (1:Int)))
 Tree.need (V.cons (V.agg q0) V.nil = V.cons (V.agg q0) V.nil/\a.n1<=(1000:Nat)/\a.n2<=(1000:Nat)) (Tree.node (bif bif VZ (X0 q0) != (0:Int) then true else !bif decide (b >= (1:Int)) then decide (b<=(16:Int)) else false then true else false) (Tree.leaf (V.tup (V.cons (V.int true .i64 (0:Int)) (V.cons (V.bool true false) V.nil)))) (Tree.need (V.cons (V.agg q1) (ci q2 V.nil) = V.cons (V.agg q1) (ci q2 V.nil)/\a.n1<=(1000:Nat)) (Tree.leaf (V.tup (ci (Zcy (ZA q1) q2) (V.cons (V.bool false (Z0 (ZA q1) q2)) V.nil))))))
theorem Zjc (a:YS) (b:Int):ZQ (Zn P [UC,Zal] [] true) 400 47 (.cons (.agg (UG false a)) (.cons (.int false .i64 b) .nil)) = vSleeps_T a b:=by kernel_rfl
def Zb2 (a:YS) (b:Int):Int:=
  (bif bif bif VZ (X0 (V.cons (V.int false .i64 a.f0) (V.cons (V.rsl false 2 a.n1 fun j=>Zr false (a.3 j)) (V.cons (V.rsl false 3 a.n2 fun j=>
  Zl false (a.5 j)) V.nil)))) != (0:Int) then true else !bif decide (b >= (1:Int)) then decide (b<=(16:Int)) else false then true else false then (0:Int) else
  Zcy (ZA (V.cons (V.int false .i64 a.f0) (V.cons (V.rsl false 2 a.n1 fun j=>Zr false (a.3 j)) V.nil))) (IntKind.wrap .i64 (IntKind.wrap .i64 ((16:Int) +
  b) - (1:Int))))
def ZcC (a:YS) (b:Int):Bool:=
  (bif bif bif VZ (X0 (V.cons (V.int false .i64 a.f0) (V.cons (V.rsl false 2 a.n1 fun j=>Zr false (a.3 j)) (V.cons (V.rsl false 3 a.n2 fun j=>
  Zl false (a.5 j)) V.nil)))) != (0:Int) then true else !bif decide (b >= (1:Int)) then decide (b<=(16:Int)) else false then true else false then false else
  Z0 (ZA (V.cons (V.int false .i64 a.f0) (V.cons (V.rsl false 2 a.n1 fun j=>Zr false (a.3 j)) V.nil))) (IntKind.wrap .i64 (IntKind.wrap .i64 ((16:Int) +
  b) - (1:Int))))
theorem Zkd (a:YS) (b:Int) (h0:a.n1<=1000) (h1:a.n2<=1000):Zi P 47 (.cons (.agg (UG false a)) (.cons (.int false .i64 b) .nil)) (.tup (.cons (.int false IntKind.i64 (Zb2 a b)) (.cons (.bool false (ZcC a b)) .nil))):=
 YI (Zu hm hn (l:=[UC,Zal]) ⟨Zf7,ZgP,trivial⟩ (ls:=[]) trivial true) 400 (Has.of hn Tryz.func47 rfl) (Zjc a b) (Tree.Pre.mk (by refine ⟨?_,⟨fun _=>trivial,fun _=>⟨?_,trivial⟩⟩⟩; all_goals (((repeat' (first | exact rfl | exact fun _=>⟨rfl,rfl⟩ | apply And.intro | intro _)); all_goals (try simp only [decide_eq_true_eq,decide_eq_false_iff_not] at *); all_goals omega)))) (by kernel_rfl) (by kernel_rfl)
def UD:Con:=Yf 47 (fun x=>(.cons (.agg (UG false (X0 x.hd.inner))) (.cons (.int false .i64 x.tl.hd.toInt) .nil))) (fun x=>(.tup (.cons (.int false IntKind.i64 (Zb2 (X0 x.hd.inner) x.tl.hd.toInt)) (.cons (.bool false (ZcC (X0 x.hd.inner) x.tl.hd.toInt)) .nil)))) (fun x=>(X0 x.hd.inner).n1<=1000/\(X0 x.hd.inner).n2<=1000)
theorem Zgu:UD.Ok P:=Yt (fun x h=>Zkd _ _ h.1 h.2)
abbrev ZcA (d:Zc) (i:Int) (z:Unit):V:=(.cons (.ptr true 0 0 0 0) (.cons (.bool true false) (.cons (.int false .i64 (i + 1)) .nil)))
abbrev ZaD (d:Zc) (i:Int) (z:Unit):List Blk:=[.var (ZM d.a),mO d,mN d,mH d]
def wt3_R (d:Zc) (i:Int) (z:Unit):Tree Rd:=
 let q12:=(V.rsl false 2 d.a.n10 fun j=>Zr false (d.a.r10 j))
 let q13:=(V.rsl false 3 d.a.n11 fun j=>Zl false (d.a.r11 j))
 let q0:=(V.cons (V.rsl false 2 d.a.n1 fun j=>Yk false (d.a.r1 j)) (V.cons (V.rsl false 1 d.a.n2 fun j=>V.cons (V.int false .u32 (d.a.r2 j).f0) V.nil) (V.cons (V.rsl false 4 d.a.n3 fun j=>Zm false (d.a.r3 j)) (V.cons (V.rsl false 4 d.a.n4 fun j=>Zk false (d.a.r4 j)) (V.cons (V.rsl false 2 d.a.n5 fun j=>ZE false (d.a.r5 j)) (V.cons (V.rsl false 11 d.a.n6 fun j=>ZT false (d.a.r6 j)) (V.cons (V.rsl false 2 d.a.n7 fun j=>ZN false (d.a.r7 j)) (V.cons (V.rsl false 5 d.a.n8 fun j=>ZG false (d.a.r8 j)) (ci d.a.f9 (V.cons q12 (V.cons q13 (V.cons (V.rsl false 2 d.a.n12 fun j=>Yq false (d.a.r12 j)) (V.cons (V.int false .u64 d.a.f13) (V.cons (V.mp 1) (V.cons (V.mp 2) (V.cons (V.mp 3) V.nil))))))))))))))))
 let q11:=(bif d.2 (i + (1:Int)) then d.3 (i + (1:Int)) else (0:Int))
 let q1:=(d.a.r6 (Int.toNat q11))
 let q2:=(ci d.a.f9 (V.cons q12 (V.cons q13 V.nil)))
 let q10:=(ci (i + (1:Int)) V.nil)
 let q3:=(Tree.leaf (Ex.ret,true,V.cons (pt 0) (V.cons (V.bool true false) q10),[Blk.var (ZM d.a),mO d,mN d,mH d]))
 let q4:=(ci d.a.f0 q0 = ci d.a.f0 q0/\(ZX .i64 (fun x=>(d.2 (Za x),vi (d.3 (Za x)))) fun k=>(d.2 (Za k),vi (d.3 (Za k))))/\(ZX .i64 (fun x=>(d.4 (Za x),vi (d.5 (Za x)))) fun k=>(d.4 (Za k),vi (d.5 (Za k))))/\ZX .i64 (fun x=>(d.6 (Za x),vi (d.7 (Za x)))) fun k=>(d.6 (Za k),vi (d.7 (Za k))))
 let q5:=(ci q1.f1 (ci q1.f2 (V.cons (V.int false .u32 q1.f3) (ci q1.f4 V.nil))))
 let q6:=(Tree.leaf (Ex.normal,true,V.cons (pt 0) (V.cons (V.bool true false) (ci (IntKind.wrap .i64 (i + (1:Int) + (1:Int))) V.nil)),[Blk.var (ZM d.a),mO d,mN d,mH d]))
 let q7:=(V.cons (V.agg q2) q10 = V.cons (V.agg q2) q10/\d.a.n10<=(1000:Nat)/\d.a.n11<=(1000:Nat))
 let q15:=(vi (0:Int))
 let q8:=(V.cons q15 (V.cons q15 (V.cons (V.int false .u32 (0:Int)) (V.cons q15 V.nil))))
 let q9:=(Zc.mk (Qm (ZM d.a)) (fun j=>d.2 j) (fun j=>d.3 j) (fun j=>d.4 j) (fun j=>d.5 j) (fun j=>d.6 j) fun j=>d.7 j)
 let q14:=(bif q1.f3 != (0:Int) then true else q1.f4 != (0:Int))
 let q16:=(V.int true .i64 (0:Int))
 Tree.node (bif !d.2 (i + (1:Int)) then true else false) (Tree.need q7 (Tree.node (!ZcC (X0 q2) (i + (1:Int))==false) q3 (Tree.node (Zb2 (X0 q2) (i + (1:Int)) != (0:Int)) q3 (Tree.need (q4/\V.agg q8 = V.agg q8/\d.a.n8<=(1000:Nat)/\∀ (j:Nat),j < d.a.n8->(1:Int)<=(d.a.r8 j).f0/\(d.a.r8 j).f0<=(32:Int)) (Tree.node (bif ZcR q9 (i + (1:Int)) (Y0 (V.cons q16 (V.cons q16 (V.cons (V.int true .u32 (0:Int)) (V.cons q16 V.nil))))) then true else false) q3 q6))))) (Tree.need (((0:Int)<=bif d.2 (i + (1:Int)) then d.3 (i + (1:Int)) else (0:Int))/\q11 < ((d.a.n6:Nat):Int)) (Tree.need q7 (Tree.node (!ZcC (X0 q2) (i + (1:Int))==bif bif bif bif bif !bif decide (q1.f1 >= (0:Int)) then bif decide (q1.f1<=(3:Int)) then bif decide (q1.f2 >= (0:Int)) then bif decide (q1.f2<=(15:Int)) then bif decide (q1.f4 >= (0:Int)) then decide (q1.f4<=(1125899906842624:Int)) else false else false else false else false else false then true else !q14==(q1.f1==(3:Int)) then true else false then true else q1.f4==(0:Int) then true else false then false else true) q3 (Tree.node (Zb2 (X0 q2) (i + (1:Int)) != bif bif bif bif bif !bif decide (q1.f1 >= (0:Int)) then bif decide (q1.f1<=(3:Int)) then bif decide (q1.f2 >= (0:Int)) then bif decide (q1.f2<=(15:Int)) then bif decide (q1.f4 >= (0:Int)) then decide (q1.f4<=(1125899906842624:Int)) else false else false else false else false else false then true else !q14==(q1.f1==(3:Int)) then true else false then true else q1.f4==(0:Int) then true else false then (0:Int) else q1.f4) q3 (Tree.need (q4/\V.agg q5 = V.agg q5/\d.a.n8<=(1000:Nat)/\∀ (j:Nat),j < d.a.n8->(1:Int)<=(d.a.r8 j).f0/\(d.a.r8 j).f0<=(32:Int)) (Tree.node (bif ZcR q9 (i + (1:Int)) (Y0 q5) then true else false) q3 q6))))))
theorem wt3_round (d:Zc):Yp P { (Zn P [GQ,UD] [] true) with hk:=WR [⟨167,VB⟩] } 66 16 4 4 103 [0,2,7] [(0,.own),(1,.own),(2,.own),(3,.own)] [] (ZcA d) (ZaD d) (fun i=>(bif decide (i + (1:Int)<=(16:Int)) then false else true)) (.exit 4) (wt3_R d):=fun B i z=>by kernel_rfl
def Zfm (d:Zc) (k:Nat):Bool:=(wt3_R d k ()).early
abbrev wt3_ets (d:Zc) (i:Int) (z:Unit):V:=(.cons (V.ptr true 0 0 0 0) (.cons (V.bool true false) (.cons .junk .nil)))
def ZbP (d:Zc):Lp:=lpL 66 16 4 4 103 [0,2,7] [(0,.own),(1,.own),(2,.own),(3,.own)] [] (ZcA d) (ZaD d) (.exit 4) .ret () (fun _=>()) (Zfm d) (17 - 1) (wt3_ets d) (ZaD d)
def wt3_need (d:Zc):Prop:=YP 4 [] (ZcA d) (ZaD d) () (ZcA d (0:Nat) ()) (ZaD d (0:Nat) ())
theorem wt3_fit (d:Zc):wt3_need d:=⟨rfl,⟨rfl,⟨rfl,fun _=>⟨rfl,rfl⟩⟩,⟨rfl,fun _=>⟨rfl,rfl⟩⟩,⟨rfl,fun _=>⟨rfl,rfl⟩⟩,trivial⟩⟩
theorem wt3_lp_ok (d:Zc) (hl:d.a.n8<=1000) (hl10:d.a.n10<=1000) (hl11:d.a.n11<=1000) (hO:∀ j:Int,d.oh j = true->0<=d.og j/\d.og j < d.a.n6) (hN:∀ j:Nat,j < d.a.n8->1<=(d.a.r8 j).f0/\(d.a.r8 j).f0<=32):(ZbP d).Ok P:=by
 refine Y4 ((Zu hm hn (l:=[GQ,UD]) ⟨ZgI,Zgu,trivial⟩ (ls:=[]) trivial true).JU (l:=[⟨167,VB⟩]) ⟨Zhm,trivial⟩) rfl (by kernel_rfl) (wt3_round d) exN (hcBy (q:=fun i:Int=>(i:Int) + 1<=16) fun i hi=>⟨fun h=>(by have h2:(i:Int) + 1<=16:=h; omega),fun _=>(by show (i:Int) + 1<=16; omega)⟩) (fun _=>rfl) (step:=fun _ z=>z) (rd:=(fun _ t y=>())) (fun i z=>rfl) (fun i=>rfl) rfl (fun i hlt hg=>?_) (fun i z hi=>?_)
 ·have hltI:(i:Int) + 1 < ((17:Nat):Int):=by omega
  refine ⟨fun hb0=>⟨?_,⟨fun hb1=>trivial,fun hb1=>⟨fun hb2=>trivial,fun hb2=>⟨?_,⟨fun hb3=>trivial,fun hb3=>trivial⟩⟩⟩⟩⟩,fun hb0=>⟨?_,⟨?_,⟨fun hb1=>trivial,fun hb1=>⟨fun hb2=>trivial,fun hb2=>⟨?_,⟨fun hb3=>trivial,fun hb3=>trivial⟩⟩⟩⟩⟩⟩⟩
  all_goals (repeat' (first | exact rfl | exact fun _=>⟨rfl,rfl⟩ | apply And.intro | intro _))
  all_goals (try simp only [decide_eq_true_eq,decide_eq_false_iff_not,Bool.not_eq_true',Bool.not_eq_false'] at *)
  all_goals (try simp (disch:=omega) only [IntWalk.i64_in])
  all_goals (first | omega | exact (WO ‹_› (hO _)).1 | exact (WO ‹_› (hO _)).2 | exact hN | exact (hN _ (by assumption)).1 | exact (hN _ (by assumption)).2)
 ·have hw:=(IntWalk.i64_in (((i:Int) + 1) + 1) ⟨by omega,by omega⟩)
  refine ⟨⟨?_,⟨?_,⟨?_,?_⟩⟩⟩,⟨?_,⟨?_,⟨?_,?_⟩⟩⟩⟩
  all_goals (first | (rw [hw]; exact ⟨rfl,Le.soft rfl,Z7 _⟩) | exact ⟨rfl,rfl,(by repeat' (first | exact Le.refl _ | exact Le.junk _ rfl | apply Le.cons)),Z7 _⟩)
def vWaited_T (d:Zc):Tree (V×List Blk):=
 let q11:=(V.rsl false 5 d.a.n8 fun j=>ZG false (d.a.r8 j))
 let q10:=(V.rsl false 3 d.a.n11 fun j=>Zl false (d.a.r11 j))
 let q0:=(V.cons (V.rsl false 2 d.a.n1 fun j=>Yk false (d.a.r1 j)) (V.cons (V.rsl false 1 d.a.n2 fun j=>V.cons (V.int false .u32 (d.a.r2 j).f0) V.nil) (V.cons (V.rsl false 4 d.a.n3 fun j=>Zm false (d.a.r3 j)) (V.cons (V.rsl false 4 d.a.n4 fun j=>Zk false (d.a.r4 j)) (V.cons (V.rsl false 2 d.a.n5 fun j=>ZE false (d.a.r5 j)) (V.cons (V.rsl false 11 d.a.n6 fun j=>ZT false (d.a.r6 j)) (V.cons (V.rsl false 2 d.a.n7 fun j=>ZN false (d.a.r7 j)) (V.cons q11 (ci d.a.f9 (V.cons (V.rsl false 2 d.a.n10 fun j=>Zr false (d.a.r10 j)) (V.cons q10 (V.cons (V.rsl false 2 d.a.n12 fun j=>Yq false (d.a.r12 j)) (V.cons (V.int false .u64 d.a.f13) (V.cons (V.mp 1) (V.cons (V.mp 2) (V.cons (V.mp 3) V.nil))))))))))))))))
 let q1:=[Blk.var (ZM d.a),Blk.Ze (MK.int .i64) false (fun k=>(d.2 (Za k),vi (d.3 (Za k)))) none,Blk.Ze (MK.int .i64) false (fun k=>(d.4 (Za k),vi (d.5 (Za k)))) none,Blk.Ze (MK.int .i64) false (fun k=>(d.6 (Za k),vi (d.7 (Za k)))) none]
 let q2:=(IntKind.i64 = IntKind.i64/\ZX .i64 (fun x=>(d.2 (Za x),vi (d.3 (Za x)))) fun k=>(d.2 (Za k),vi (d.3 (Za k))))
 let q3:=(IntKind.i64 = IntKind.i64/\ZX .i64 (fun x=>(d.4 (Za x),vi (d.5 (Za x)))) fun k=>(d.4 (Za k),vi (d.5 (Za k))))
 let q4:=(IntKind.i64 = IntKind.i64/\ZX .i64 (fun x=>(d.6 (Za x),vi (d.7 (Za x)))) fun k=>(d.6 (Za k),vi (d.7 (Za k))))
 let q5:=(V.cons (V.bool false false) (V.cons q10 (ci ((d.a.n11:Nat):Int) (ci (0:Int) V.nil))))
 let q6:=(V.cons (V.bool false false) (V.cons q11 (ci ((d.a.n8:Nat):Int) (ci (0:Int) V.nil))))
 let q7:=(vi d.a.f0)
 let q8:=(Tree.leaf (V.bool true false,q1))
 let q9:=(V.cons (V.bool false false) (ci (1:Int) V.nil))
 Tree.node (bif d.a.f9 != d.a.f0 then true else false) q8 (Tree.need (V.cons (V.ptr false 0 0 0 0) q6 = V.cons (V.ptr false 0 0 0 0) q6/\V.cons q7 q0 = V.cons q7 q0/\q2/\q3/\q4/\True) (Tree.node (bif Zp (Zfk d) d.a.n8 then true else false) q8 (Tree.need (V.cons (V.ptr false 0 0 0 0) q5 = V.cons (V.ptr false 0 0 0 0) q5/\V.cons q7 q0 = V.cons q7 q0/\q2/\q3/\q4/\True) (Tree.node (bif Zp (Zfc d) d.a.n11 then true else false) q8 (Tree.need (V.cons (V.ptr false 0 0 0 0) q9 = V.cons (V.ptr false 0 0 0 0) q9/\V.cons q7 q0 = V.cons q7 q0/\q2/\q3/\q4/\True) (Tree.node (bif Zp (Zfm d) ((17:Nat) - (1:Nat)) then true else false) q8 (Tree.leaf (V.bool true true,q1))))))))
theorem Zi5 (d:Zc):evH { (Zn P [GQ,UD] [ZdQ d,ZcK d,ZbP d] true) with hk:=WR [⟨167,VB⟩] } 400 66 (.cons (.ptr true 0 0 0 0) .nil) (ZV d) = vWaited_T d:=by kernel_rfl
def U2 (d:Zc):Bool:=
  (bif bif d.a.f9 != d.a.f0 then true else false then (false) else (bif bif Zp (Zfk d) d.a.n8 then true else false then (false) else (bif bif Zp (Zfc d) d.a.n11
  then true else false then (false) else (bif bif Zp (Zfm d) ((17:Nat) - (1:Nat)) then true else false then (false) else (true)))))
theorem ZjS (d:Zc) (h0:d.a.n8<=1000) (h1:d.a.n10<=1000) (h2:d.a.n11<=1000) (h3:∀ j:Int,d.oh j = true->0<=d.og j/\d.og j < d.a.n6) (h4:∀ j:Nat,j < d.a.n8->1<=(d.a.r8 j).f0/\(d.a.r8 j).f0<=32):Xb P 66 (.cons (.ptr true 0 0 0 0) .nil) (ZV d) (.leaf (.bool false (U2 d),ZV d)):=by
 refine VO (E:={ (Zn P [GQ,UD] [ZdQ d,ZcK d,ZbP d] true) with hk:=WR [⟨167,VB⟩] }) ((Zu hm hn (l:=[GQ,UD]) ⟨ZgI,Zgu,trivial⟩ (ls:=[ZdQ d,ZcK d,ZbP d]) ⟨wt1_lp_ok d h0 h3,wt2_lp_ok d h2 h3,wt3_lp_ok d h0 h1 h2 h3 h4,trivial⟩ true).JU (l:=[⟨167,VB⟩]) ⟨Zhm,trivial⟩) (Zi5 d) ((cC rfl (cC rfl (cC rfl (cC rfl rfl))))) ⟨⟨rfl,rfl⟩,⟨⟨rfl,rfl⟩,⟨⟨rfl,rfl⟩,⟨⟨rfl,rfl⟩,⟨rfl,rfl⟩⟩⟩⟩⟩ ?_
 refine ⟨fun hb0=>trivial,fun hb0=>⟨?_,⟨fun hb1=>trivial,fun hb1=>⟨?_,⟨fun hb2=>trivial,fun hb2=>⟨?_,⟨fun hb3=>trivial,fun hb3=>trivial⟩⟩⟩⟩⟩⟩⟩
 all_goals ((repeat' (first | exact wt1_fit d | exact wt2_fit d | exact wt3_fit d | exact rfl | exact fun _=>⟨rfl,rfl⟩ | apply And.intro | intro _)); all_goals (try simp only [decide_eq_true_eq,decide_eq_false_iff_not] at *); all_goals (first | omega | exact wt1_fit d | exact wt2_fit d | exact wt3_fit d))
def Gu:HK:=fun args bl=>match args,bl with
 | (.cons (.ptr true 0 0 0 0) .nil),[.var c,.Ze (.int .i64) _ fo _,.Ze (.int .i64) _ fn _,.Ze (.int .i64) _ fh _]=>some (c.WT fun c=>.need (KP c fo fn fh/\(fun (d:Zc)=>d.a.n8<=1000) (ZF c fo fn fh)/\(fun (d:Zc)=>d.a.n10<=1000) (ZF c fo fn fh)/\(fun (d:Zc)=>d.a.n11<=1000) (ZF c fo fn fh)/\(fun (d:Zc)=>∀ j:Int,d.oh j = true->0<=d.og j/\d.og j < d.a.n6) (ZF c fo fn fh)/\(fun (d:Zc)=>∀ j:Nat,j < d.a.n8->1<=(d.a.r8 j).f0/\(d.a.r8 j).f0<=32) (ZF c fo fn fh)) (.leaf (.bool false (U2 (ZF c fo fn fh)),ZV (ZF c fo fn fh))))
 | _,_=>none
theorem Zji:Xj P 66 Gu:=by
 intro args bl T hT
 unfold Gu at hT
 split at hT
 ·rename_i c q1 fo q2 q3 fn q4 q5 fh q6
  injection hT with hT
  subst hT
  intro base mm F w xs Q KK h1 h2 hq hk
  simp only [V.Qw] at hq
  obtain ⟨hp,hq⟩:=hq
  exact Xb.le (bl:=[.var c,.Ze (.int .i64) q1 fo q2,.Ze (.int .i64) q3 fn q4,.Ze (.int .i64) q5 fh q6]) (ZjS (ZF c fo fn fh) hp.2.1 hp.2.2.1 hp.2.2.2.1 hp.2.2.2.2.1 hp.2.2.2.2.2) rfl (fun b=>Vr hp.1 b) base mm F w xs Q KK h1 h2 hq hk
 ·cases hT
abbrev Zav (d:Zc) (i:Int) (z:Int):V:=(.cons (.ptr true 0 0 0 0) (.cons (.bool true false) (.cons (.int false .i64 (z)) (.cons (.rsl false 2 (Zb.n12 (Zc.a d)) (fun j=>Yq false ((Zc.a d).r12 j))) (.cons (.int false .i64 (((Zb.n12 (Zc.a d)):Nat):Int)) (.cons (.int false .i64 i) .nil))))))
abbrev ZbB (d:Zc) (i:Int) (z:Int):List Blk:=[.var (ZM d.a),mO d,mN d,mH d]
def pl1_R (d:Zc) (i:Int) (z:Int):Tree Rd:=
 let q7:=(V.rsl false 2 d.a.n12 fun jj=>Yq false (d.a.r12 jj))
 let q0:=(Tree.leaf (Ex.ret,true,V.cons (pt 0) (V.cons (V.bool true false) (ci z (V.cons q7 (ci ((d.a.n12:Nat):Int) (ci i V.nil))))),[Blk.var (ZM d.a),mO d,mN d,mH d]))
 let q6:=(bif d.2 (d.a.r12 (Int.toNat i)).f0 then d.3 (d.a.r12 (Int.toNat i)).f0 else (0:Int))
 let q1:=(d.a.r6 (Int.toNat q6))
 let q2:=(bif d.6 (d.a.r12 (Int.toNat i)).f0 then d.7 (d.a.r12 (Int.toNat i)).f0 else (0:Int))
 let q3:=(V.cons (V.rsl false 4 d.a.n3 fun j=>Zm false (d.a.r3 j)) (V.cons (V.rsl false 4 d.a.n4 fun j=>Zk false (d.a.r4 j)) V.nil))
 let q4:=(Tree.leaf (Ex.normal,true,V.cons (pt 0) (V.cons (V.bool true false) (ci (d.a.r12 (Int.toNat i)).f1 (V.cons q7 (ci ((d.a.n12:Nat):Int) (ci (IntKind.wrap .i64 (i + (1:Int))) V.nil))))),[Blk.var (ZM d.a),mO d,mN d,mH d]))
 let q5:=(IntKind.wrap .u32 ((BitVec.toNat (BitVec.ofInt (IntKind.bits .u32) (JC (ZY q3) (d.a.r12 (Int.toNat i)).f0) &&& BitVec.ofInt (IntKind.bits .u32) (d.a.r2 (Int.toNat (d.a.r3 (Int.toNat q2)).f3)).f0):Nat):Int))
 let q8:=(ci (d.a.r12 (Int.toNat i)).f0 V.nil)
 Tree.need ((0:Int)<=i/\i < ((d.a.n12:Nat):Int)) (Tree.node (decide ((d.a.r12 (Int.toNat i)).f1<=z)) q0 (Tree.node ((bif d.4 (d.a.r12 (Int.toNat i)).f0 then d.5 (d.a.r12 (Int.toNat i)).f0 else (0:Int)) != (d.a.r12 (Int.toNat i)).f1) q0 (Tree.node (bif !d.2 (d.a.r12 (Int.toNat i)).f0 then true else false) q0 (Tree.need (((0:Int)<=bif d.2 (d.a.r12 (Int.toNat i)).f0 then d.3 (d.a.r12 (Int.toNat i)).f0 else (0:Int))/\q6 < ((d.a.n6:Nat):Int)) (Tree.node (!bif bif bif !bif decide (q1.f1 >= (0:Int)) then bif decide (q1.f1<=(3:Int)) then bif decide (q1.f2 >= (0:Int)) then bif decide (q1.f2<=(15:Int)) then bif decide (q1.f4 >= (0:Int)) then decide (q1.f4<=(1125899906842624:Int)) else false else false else false else false else false then true else !(bif q1.f3 != (0:Int) then true else q1.f4 != (0:Int))==(q1.f1==(3:Int)) then true else false then false else q1.f1==(1:Int)&&(q1.f2==(0:Int)&&(q1.f3==(0:Int)&&(q1.f4==(0:Int)&&true)))) q0 (Tree.need (((0:Int)<=bif d.6 (d.a.r12 (Int.toNat i)).f0 then d.7 (d.a.r12 (Int.toNat i)).f0 else (0:Int))/\q2 < ((d.a.n7:Nat):Int)) (Tree.node (bif bif bif bif bif bif bif decide ((d.a.r7 (Int.toNat q2)).f0 < (0:Int)) then true else decide ((d.a.r7 (Int.toNat q2)).f0 > (800:Int)) then true else false then true else false then true else false then true else bif bif bif bif bif decide ((d.a.r7 (Int.toNat q2)).f1 < (-8000000000:Int)) then true else decide ((d.a.r7 (Int.toNat q2)).f1 > IntKind.wrap .i64 ((d.a.r7 (Int.toNat q2)).f0 * (100000000:Int))) then true else false then true else false then true else false then true else bif (d.a.r7 (Int.toNat q2)).f0==(0:Int) then !((d.a.r7 (Int.toNat q2)).f0==(0:Int)&&((d.a.r7 (Int.toNat q2)).f1==(0:Int)&&true)) else false then true else false then false else bif decide ((d.a.r7 (Int.toNat q2)).f0 > (0:Int)) then decide ((d.a.r7 (Int.toNat q2)).f1<=(0:Int)) else false) q0 (Tree.need (V.cons (V.agg q3) q8 = V.cons (V.agg q3) q8/\d.a.n3<=(1000:Nat)/\d.a.n4<=(1000:Nat)) (Tree.need (((0:Int)<=bif d.6 (d.a.r12 (Int.toNat i)).f0 then d.7 (d.a.r12 (Int.toNat i)).f0 else (0:Int))/\q2 < ((d.a.n3:Nat):Int)) (Tree.need ((0:Int)<=(d.a.r3 (Int.toNat q2)).f3/\(d.a.r3 (Int.toNat q2)).f3 < ((d.a.n2:Nat):Int)) (Tree.node (bif bif decide ((d.a.r12 (Int.toNat i)).f1 < (0:Int)) then true else decide ((d.a.r12 (Int.toNat i)).f1 >= (8:Int)) then true else false) (Tree.node (bif !IntKind.wrap .u32 ((BitVec.toNat (BitVec.ofInt (IntKind.bits .u32) q5 &&& BitVec.ofInt (IntKind.bits .u32) (0:Int)):Nat):Int) != (0:Int) then true else false) q0 q4) (Tree.need ((0:Int)<=(d.a.r12 (Int.toNat i)).f1) (Tree.node (bif !IntKind.wrap .u32 ((BitVec.toNat (BitVec.ofInt (IntKind.bits .u32) q5 &&& BitVec.ofInt (IntKind.bits .u32) (IntKind.wrap .u32 ((1:Int) * (2:Int) ^ min (Int.toNat (d.a.r12 (Int.toNat i)).f1) (IntKind.bits .u32)))):Nat):Int) != (0:Int) then true else false) q0 q4)))))))))))))
theorem pl1_round (d:Zc):Yp P (Zn P [QV,U8,XU] [] true) 67 3 4 4 146 [0,2,3,22,23,24] [(0,.own),(1,.own),(2,.own),(3,.own)] [] (Zav d) (ZbB d) (fun i=>(bif decide (i < ((d.a.n12:Nat):Int)) then false else true)) (.exit 0) (pl1_R d):=fun B i z=>by kernel_rfl
def Ze6 (d:Zc) (k:Nat) (z:Int):Int:=(fun (i:Int) (z:Int)=>(bif decide ((d.a.r12 (Int.toNat i)).f1<=z) then (z) else (bif (bif d.4 (d.a.r12 (Int.toNat i)).f0 then d.5 (d.a.r12 (Int.toNat i)).f0 else (0:Int)) != (d.a.r12 (Int.toNat i)).f1 then (z) else (bif bif !d.2 (d.a.r12 (Int.toNat i)).f0 then true else false then (z) else (bif !bif bif bif !bif decide ((d.a.r6 (Int.toNat (bif d.2 (d.a.r12 (Int.toNat i)).f0 then d.3 (d.a.r12 (Int.toNat i)).f0 else (0:Int)))).f1 >= (0:Int)) then bif decide ((d.a.r6 (Int.toNat (bif d.2 (d.a.r12 (Int.toNat i)).f0 then d.3 (d.a.r12 (Int.toNat i)).f0 else (0:Int)))).f1<=(3:Int)) then bif decide ((d.a.r6 (Int.toNat (bif d.2 (d.a.r12 (Int.toNat i)).f0 then d.3 (d.a.r12 (Int.toNat i)).f0 else (0:Int)))).f2 >= (0:Int)) then bif decide ((d.a.r6 (Int.toNat (bif d.2 (d.a.r12 (Int.toNat i)).f0 then d.3 (d.a.r12 (Int.toNat i)).f0 else (0:Int)))).f2<=(15:Int)) then bif decide ((d.a.r6 (Int.toNat (bif d.2 (d.a.r12 (Int.toNat i)).f0 then d.3 (d.a.r12 (Int.toNat i)).f0 else (0:Int)))).f4 >= (0:Int)) then decide ((d.a.r6 (Int.toNat (bif d.2 (d.a.r12 (Int.toNat i)).f0 then d.3 (d.a.r12 (Int.toNat i)).f0 else (0:Int)))).f4<=(1125899906842624:Int)) else false else false else false else false else false then true else !(bif (d.a.r6 (Int.toNat (bif d.2 (d.a.r12 (Int.toNat i)).f0 then d.3 (d.a.r12 (Int.toNat i)).f0 else (0:Int)))).f3 != (0:Int) then true else (d.a.r6 (Int.toNat (bif d.2 (d.a.r12 (Int.toNat i)).f0 then d.3 (d.a.r12 (Int.toNat i)).f0 else (0:Int)))).f4 != (0:Int))==((d.a.r6 (Int.toNat (bif d.2 (d.a.r12 (Int.toNat i)).f0 then d.3 (d.a.r12 (Int.toNat i)).f0 else (0:Int)))).f1==(3:Int)) then true else false then false else (d.a.r6 (Int.toNat (bif d.2 (d.a.r12 (Int.toNat i)).f0 then d.3 (d.a.r12 (Int.toNat i)).f0 else (0:Int)))).f1==(1:Int)&&((d.a.r6 (Int.toNat (bif d.2 (d.a.r12 (Int.toNat i)).f0 then d.3 (d.a.r12 (Int.toNat i)).f0 else (0:Int)))).f2==(0:Int)&&((d.a.r6 (Int.toNat (bif d.2 (d.a.r12 (Int.toNat i)).f0 then d.3 (d.a.r12 (Int.toNat i)).f0 else (0:Int)))).f3==(0:Int)&&((d.a.r6 (Int.toNat (bif d.2 (d.a.r12 (Int.toNat i)).f0 then d.3 (d.a.r12 (Int.toNat i)).f0 else (0:Int)))).f4==(0:Int)&&true))) then (z) else (bif bif bif bif bif bif bif bif decide ((d.a.r7 (Int.toNat (bif d.6 (d.a.r12 (Int.toNat i)).f0 then d.7 (d.a.r12 (Int.toNat i)).f0 else (0:Int)))).f0 < (0:Int)) then true else decide ((d.a.r7 (Int.toNat (bif d.6 (d.a.r12 (Int.toNat i)).f0 then d.7 (d.a.r12 (Int.toNat i)).f0 else (0:Int)))).f0 > (800:Int)) then true else false then true else false then true else false then true else bif bif bif bif bif decide ((d.a.r7 (Int.toNat (bif d.6 (d.a.r12 (Int.toNat i)).f0 then d.7 (d.a.r12 (Int.toNat i)).f0 else (0:Int)))).f1 < (-8000000000:Int)) then true else decide ((d.a.r7 (Int.toNat (bif d.6 (d.a.r12 (Int.toNat i)).f0 then d.7 (d.a.r12 (Int.toNat i)).f0 else (0:Int)))).f1 > IntKind.wrap .i64 ((d.a.r7 (Int.toNat (bif d.6 (d.a.r12 (Int.toNat i)).f0 then d.7 (d.a.r12 (Int.toNat i)).f0 else (0:Int)))).f0 * (100000000:Int))) then true else false then true else false then true else false then true else bif (d.a.r7 (Int.toNat (bif d.6 (d.a.r12 (Int.toNat i)).f0 then d.7 (d.a.r12 (Int.toNat i)).f0 else (0:Int)))).f0==(0:Int) then !((d.a.r7 (Int.toNat (bif d.6 (d.a.r12 (Int.toNat i)).f0 then d.7 (d.a.r12 (Int.toNat i)).f0 else (0:Int)))).f0==(0:Int)&&((d.a.r7 (Int.toNat (bif d.6 (d.a.r12 (Int.toNat i)).f0 then d.7 (d.a.r12 (Int.toNat i)).f0 else (0:Int)))).f1==(0:Int)&&true)) else false then true else false then false else bif decide ((d.a.r7 (Int.toNat (bif d.6 (d.a.r12 (Int.toNat i)).f0 then d.7 (d.a.r12 (Int.toNat i)).f0 else (0:Int)))).f0 > (0:Int)) then decide ((d.a.r7 (Int.toNat (bif d.6 (d.a.r12 (Int.toNat i)).f0 then d.7 (d.a.r12 (Int.toNat i)).f0 else (0:Int)))).f1<=(0:Int)) else false then (z) else (bif bif bif decide ((d.a.r12 (Int.toNat i)).f1 < (0:Int)) then true else decide ((d.a.r12 (Int.toNat i)).f1 >= (8:Int)) then true else false then (bif bif !IntKind.wrap .u32 ((BitVec.toNat (BitVec.ofInt (IntKind.bits .u32) (IntKind.wrap .u32 ((BitVec.toNat (BitVec.ofInt (IntKind.bits .u32) (JC (ZY (V.cons (V.rsl false 4 d.a.n3 fun j=>Zm false (d.a.r3 j)) (V.cons (V.rsl false 4 d.a.n4 fun j=>Zk false (d.a.r4 j)) V.nil))) (d.a.r12 (Int.toNat i)).f0) &&& BitVec.ofInt (IntKind.bits .u32) (d.a.r2 (Int.toNat (d.a.r3 (Int.toNat (bif d.6 (d.a.r12 (Int.toNat i)).f0 then d.7 (d.a.r12 (Int.toNat i)).f0 else (0:Int)))).f3)).f0):Nat):Int)) &&& BitVec.ofInt (IntKind.bits .u32) (0:Int)):Nat):Int) != (0:Int) then true else false then (z) else ((d.a.r12 (Int.toNat i)).f1)) else (bif bif !IntKind.wrap .u32 ((BitVec.toNat (BitVec.ofInt (IntKind.bits .u32) (IntKind.wrap .u32 ((BitVec.toNat (BitVec.ofInt (IntKind.bits .u32) (JC (ZY (V.cons (V.rsl false 4 d.a.n3 fun j=>Zm false (d.a.r3 j)) (V.cons (V.rsl false 4 d.a.n4 fun j=>Zk false (d.a.r4 j)) V.nil))) (d.a.r12 (Int.toNat i)).f0) &&& BitVec.ofInt (IntKind.bits .u32) (d.a.r2 (Int.toNat (d.a.r3 (Int.toNat (bif d.6 (d.a.r12 (Int.toNat i)).f0 then d.7 (d.a.r12 (Int.toNat i)).f0 else (0:Int)))).f3)).f0):Nat):Int)) &&& BitVec.ofInt (IntKind.bits .u32) (IntKind.wrap .u32 ((1:Int) * (2:Int) ^ min (Int.toNat (d.a.r12 (Int.toNat i)).f1) (IntKind.bits .u32)))):Nat):Int) != (0:Int) then true else false then (z) else ((d.a.r12 (Int.toNat i)).f1))))))))) k z
def QC (d:Zc) (k:Nat):Int:=ZI (-1:Int) (Ze6 d) k
def Za2 (d:Zc) (k:Nat):Bool:=(fun (i:Int) (z:Int)=>(bif decide ((d.a.r12 (Int.toNat i)).f1<=z) then true else (bif (bif d.4 (d.a.r12 (Int.toNat i)).f0 then d.5 (d.a.r12 (Int.toNat i)).f0 else (0:Int)) != (d.a.r12 (Int.toNat i)).f1 then true else (bif bif !d.2 (d.a.r12 (Int.toNat i)).f0 then true else false then true else (bif !bif bif bif !bif decide ((d.a.r6 (Int.toNat (bif d.2 (d.a.r12 (Int.toNat i)).f0 then d.3 (d.a.r12 (Int.toNat i)).f0 else (0:Int)))).f1 >= (0:Int)) then bif decide ((d.a.r6 (Int.toNat (bif d.2 (d.a.r12 (Int.toNat i)).f0 then d.3 (d.a.r12 (Int.toNat i)).f0 else (0:Int)))).f1<=(3:Int)) then bif decide ((d.a.r6 (Int.toNat (bif d.2 (d.a.r12 (Int.toNat i)).f0 then d.3 (d.a.r12 (Int.toNat i)).f0 else (0:Int)))).f2 >= (0:Int)) then bif decide ((d.a.r6 (Int.toNat (bif d.2 (d.a.r12 (Int.toNat i)).f0 then d.3 (d.a.r12 (Int.toNat i)).f0 else (0:Int)))).f2<=(15:Int)) then bif decide ((d.a.r6 (Int.toNat (bif d.2 (d.a.r12 (Int.toNat i)).f0 then d.3 (d.a.r12 (Int.toNat i)).f0 else (0:Int)))).f4 >= (0:Int)) then decide ((d.a.r6 (Int.toNat (bif d.2 (d.a.r12 (Int.toNat i)).f0 then d.3 (d.a.r12 (Int.toNat i)).f0 else (0:Int)))).f4<=(1125899906842624:Int)) else false else false else false else false else false then true else !(bif (d.a.r6 (Int.toNat (bif d.2 (d.a.r12 (Int.toNat i)).f0 then d.3 (d.a.r12 (Int.toNat i)).f0 else (0:Int)))).f3 != (0:Int) then true else (d.a.r6 (Int.toNat (bif d.2 (d.a.r12 (Int.toNat i)).f0 then d.3 (d.a.r12 (Int.toNat i)).f0 else (0:Int)))).f4 != (0:Int))==((d.a.r6 (Int.toNat (bif d.2 (d.a.r12 (Int.toNat i)).f0 then d.3 (d.a.r12 (Int.toNat i)).f0 else (0:Int)))).f1==(3:Int)) then true else false then false else (d.a.r6 (Int.toNat (bif d.2 (d.a.r12 (Int.toNat i)).f0 then d.3 (d.a.r12 (Int.toNat i)).f0 else (0:Int)))).f1==(1:Int)&&((d.a.r6 (Int.toNat (bif d.2 (d.a.r12 (Int.toNat i)).f0 then d.3 (d.a.r12 (Int.toNat i)).f0 else (0:Int)))).f2==(0:Int)&&((d.a.r6 (Int.toNat (bif d.2 (d.a.r12 (Int.toNat i)).f0 then d.3 (d.a.r12 (Int.toNat i)).f0 else (0:Int)))).f3==(0:Int)&&((d.a.r6 (Int.toNat (bif d.2 (d.a.r12 (Int.toNat i)).f0 then d.3 (d.a.r12 (Int.toNat i)).f0 else (0:Int)))).f4==(0:Int)&&true))) then true else (bif bif bif bif bif bif bif bif decide ((d.a.r7 (Int.toNat (bif d.6 (d.a.r12 (Int.toNat i)).f0 then d.7 (d.a.r12 (Int.toNat i)).f0 else (0:Int)))).f0 < (0:Int)) then true else decide ((d.a.r7 (Int.toNat (bif d.6 (d.a.r12 (Int.toNat i)).f0 then d.7 (d.a.r12 (Int.toNat i)).f0 else (0:Int)))).f0 > (800:Int)) then true else false then true else false then true else false then true else bif bif bif bif bif decide ((d.a.r7 (Int.toNat (bif d.6 (d.a.r12 (Int.toNat i)).f0 then d.7 (d.a.r12 (Int.toNat i)).f0 else (0:Int)))).f1 < (-8000000000:Int)) then true else decide ((d.a.r7 (Int.toNat (bif d.6 (d.a.r12 (Int.toNat i)).f0 then d.7 (d.a.r12 (Int.toNat i)).f0 else (0:Int)))).f1 > IntKind.wrap .i64 ((d.a.r7 (Int.toNat (bif d.6 (d.a.r12 (Int.toNat i)).f0 then d.7 (d.a.r12 (Int.toNat i)).f0 else (0:Int)))).f0 * (100000000:Int))) then true else false then true else false then true else false then true else bif (d.a.r7 (Int.toNat (bif d.6 (d.a.r12 (Int.toNat i)).f0 then d.7 (d.a.r12 (Int.toNat i)).f0 else (0:Int)))).f0==(0:Int) then !((d.a.r7 (Int.toNat (bif d.6 (d.a.r12 (Int.toNat i)).f0 then d.7 (d.a.r12 (Int.toNat i)).f0 else (0:Int)))).f0==(0:Int)&&((d.a.r7 (Int.toNat (bif d.6 (d.a.r12 (Int.toNat i)).f0 then d.7 (d.a.r12 (Int.toNat i)).f0 else (0:Int)))).f1==(0:Int)&&true)) else false then true else false then false else bif decide ((d.a.r7 (Int.toNat (bif d.6 (d.a.r12 (Int.toNat i)).f0 then d.7 (d.a.r12 (Int.toNat i)).f0 else (0:Int)))).f0 > (0:Int)) then decide ((d.a.r7 (Int.toNat (bif d.6 (d.a.r12 (Int.toNat i)).f0 then d.7 (d.a.r12 (Int.toNat i)).f0 else (0:Int)))).f1<=(0:Int)) else false then true else (bif bif bif decide ((d.a.r12 (Int.toNat i)).f1 < (0:Int)) then true else decide ((d.a.r12 (Int.toNat i)).f1 >= (8:Int)) then true else false then (bif bif !IntKind.wrap .u32 ((BitVec.toNat (BitVec.ofInt (IntKind.bits .u32) (IntKind.wrap .u32 ((BitVec.toNat (BitVec.ofInt (IntKind.bits .u32) (JC (ZY (V.cons (V.rsl false 4 d.a.n3 fun j=>Zm false (d.a.r3 j)) (V.cons (V.rsl false 4 d.a.n4 fun j=>Zk false (d.a.r4 j)) V.nil))) (d.a.r12 (Int.toNat i)).f0) &&& BitVec.ofInt (IntKind.bits .u32) (d.a.r2 (Int.toNat (d.a.r3 (Int.toNat (bif d.6 (d.a.r12 (Int.toNat i)).f0 then d.7 (d.a.r12 (Int.toNat i)).f0 else (0:Int)))).f3)).f0):Nat):Int)) &&& BitVec.ofInt (IntKind.bits .u32) (0:Int)):Nat):Int) != (0:Int) then true else false then true else false) else (bif bif !IntKind.wrap .u32 ((BitVec.toNat (BitVec.ofInt (IntKind.bits .u32) (IntKind.wrap .u32 ((BitVec.toNat (BitVec.ofInt (IntKind.bits .u32) (JC (ZY (V.cons (V.rsl false 4 d.a.n3 fun j=>Zm false (d.a.r3 j)) (V.cons (V.rsl false 4 d.a.n4 fun j=>Zk false (d.a.r4 j)) V.nil))) (d.a.r12 (Int.toNat i)).f0) &&& BitVec.ofInt (IntKind.bits .u32) (d.a.r2 (Int.toNat (d.a.r3 (Int.toNat (bif d.6 (d.a.r12 (Int.toNat i)).f0 then d.7 (d.a.r12 (Int.toNat i)).f0 else (0:Int)))).f3)).f0):Nat):Int)) &&& BitVec.ofInt (IntKind.bits .u32) (IntKind.wrap .u32 ((1:Int) * (2:Int) ^ min (Int.toNat (d.a.r12 (Int.toNat i)).f1) (IntKind.bits .u32)))):Nat):Int) != (0:Int) then true else false then true else false)))))))) k (QC d k)
theorem pl1_ge (d:Zc):∀ k:Nat,-1<=QC d k:=by
 intro k
 induction k with
 | zero=>exact Int.le_refl _
 | succ k ih=>
  show -1<=Ze6 d k (QC d k)
  generalize QC d k = z at ih ⊢
  unfold Ze6
  dsimp only
  by_cases h:(d.a.r12 k).f1<=z
  ·repeat (first | exact ih | (show -1<=(d.a.r12 k).f1; omega) | (refine cT (decide_eq_true h) rfl ▸ ih) | (rw [decide_eq_true (show (d.a.r12 (Int.toNat (k:Int))).f1<=z from h)]))
  ·have hf:-1<=(d.a.r12 k).f1:=by omega
   repeat (first | exact ih | exact hf | refine WB (p:=fun y:Int=>-1<=y) ?_ ?_)
abbrev pl1_ets (d:Zc) (i:Int) (z:Int):V:=(.cons (V.ptr true 0 0 0 0) (.cons (V.bool true false) (.cons .junk (.cons (V.rsl false 2 d.a.n12 fun jj=>Yq false (d.a.r12 jj)) (.cons (V.int false .i64 ((d.a.n12:Nat):Int)) (.cons .junk .nil))))))
def ZcH (d:Zc):Lp:=lpL 67 3 4 4 146 [0,2,3,22,23,24] [(0,.own),(1,.own),(2,.own),(3,.own)] [] (Zav d) (ZbB d) (.exit 0) .ret (-1:Int) (QC d) (Za2 d) (Zb.n12 (Zc.a d)) (pl1_ets d) (ZbB d)
def pl1_need (d:Zc):Prop:=YP 4 [] (Zav d) (ZbB d) (-1:Int) (Zav d (0:Nat) (-1:Int)) (ZbB d (0:Nat) (-1:Int))
theorem pl1_fit (d:Zc):pl1_need d:=⟨rfl,⟨rfl,⟨rfl,fun _=>⟨rfl,rfl⟩⟩,⟨rfl,fun _=>⟨rfl,rfl⟩⟩,⟨rfl,fun _=>⟨rfl,rfl⟩⟩,trivial⟩⟩
theorem pl1_lp_ok (d:Zc) (hl:d.a.n12<=1000) (hO:∀ j:Int,d.oh j = true->0<=d.og j/\d.og j < d.a.n6) (h64:d.a.n6 = d.a.n4) (hl3:d.a.n3<=1000) (hl4:d.a.n4<=1000) (hH:0 < d.a.n4->∀ j:Int,0<=(bif d.hh j then d.hg j else 0)/\(bif d.hh j then d.hg j else 0) < d.a.n3) (hP:0 < d.a.n4->∀ j:Int,0<=(d.a.r3 (bif d.hh j then d.hg j else 0).toNat).f3/\(d.a.r3 (bif d.hh j then d.hg j else 0).toNat).f3 < d.a.n2) (hD:d.a.n7 = d.a.n3):(ZcH d).Ok P:=by
 refine Y4 (Zu hm hn (l:=[QV,U8,XU]) ⟨UO,ZfH,KW,trivial⟩ (ls:=[]) trivial true) rfl (by kernel_rfl) (pl1_round d) exN YB (fun _=>rfl) (rd:=(fun _ t y=>(t.nth 2).toInt)) (fun i z=>(cC rfl (cC rfl (cC rfl (cC rfl (cC rfl (cC (cC rfl rfl) (cC rfl rfl)))))))) (fun i=>(cC rfl (cC rfl (cC rfl (cC rfl (cC rfl (cC (cC rfl rfl) (cC rfl rfl)))))))) rfl (fun i hlt hg=>?_) (fun i z hi=>?_)
 ·have hltI:(i:Int) < (((Zb.n12 (Zc.a d)):Nat):Int):=by omega
  refine ⟨?_,⟨fun hb0=>trivial,fun hb0=>⟨fun hb1=>trivial,fun hb1=>⟨fun hb2=>trivial,fun hb2=>⟨?_,⟨fun hb3=>trivial,fun hb3=>⟨?_,⟨fun hb4=>trivial,fun hb4=>⟨?_,⟨?_,⟨?_,⟨fun hb5=>⟨fun hb6=>trivial,fun hb6=>trivial⟩,fun hb5=>⟨?_,⟨fun hb6=>trivial,fun hb6=>trivial⟩⟩⟩⟩⟩⟩⟩⟩⟩⟩⟩⟩⟩⟩
  all_goals (have hf0:=pl1_ge d i)
  all_goals (repeat' (first | exact rfl | exact fun _=>⟨rfl,rfl⟩ | apply And.intro | intro _))
  all_goals (try simp only [decide_eq_true_eq,decide_eq_false_iff_not,Bool.not_eq_true',Bool.not_eq_false'] at *)
  all_goals (try simp (disch:=omega) only [IntWalk.i64_in])
  all_goals (first | omega | exact (WO ‹_› (hO _)).1 | exact (WO ‹_› (hO _)).2 | exact (hH (by have h2:=WO ‹_› (hO _); omega) _).1 | exact (hH (by have h2:=WO ‹_› (hO _); omega) _).2 | exact (hP (by have h2:=WO ‹_› (hO _); omega) _).1 | exact (hP (by have h2:=WO ‹_› (hO _); omega) _).2 | exact (by rw [hD]; exact (hH (by have h2:=WO ‹_› (hO _); omega) _).2))
 ·have hw:=(IntWalk.i64_in ((i:Int) + 1) ⟨by omega,by omega⟩)
  refine ⟨?_,⟨?_,⟨?_,⟨?_,⟨?_,⟨⟨?_,?_⟩,⟨?_,?_⟩⟩⟩⟩⟩⟩⟩
  all_goals (first | exact ⟨rfl,YD (ts:=Zav d) hw rfl,Z7 _⟩ | exact ⟨rfl,rfl,(by repeat' (first | exact Le.refl _ | exact Le.junk _ rfl | apply Le.cons)),Z7 _⟩)
abbrev ZbA (d:Zc) (i:Int) (z:Unit):V:=(.cons (.ptr true 0 0 0 0) (.cons (.bool true false) (.cons (.rsl false 11 (Zb.n6 (Zc.a d)) (fun j=>ZT false ((Zc.a d).r6 j))) (.cons (.int false .i64 (((Zb.n6 (Zc.a d)):Nat):Int)) (.cons (.int false .i64 i) .nil)))))
abbrev Zbu (d:Zc) (i:Int) (z:Unit):List Blk:=[.var (ZM d.a),mO d,mN d,mH d]
def pl2_R (d:Zc) (i:Int) (z:Unit):Tree Rd:=
 let q0:=(V.rsl false 11 d.a.n6 fun jj=>ZT false (d.a.r6 jj))
 Tree.need ((0:Int)<=i/\i < ((d.a.n6:Nat):Int)) (Tree.node (bif bif bif !d.4 (d.a.r6 (Int.toNat i)).f0 then decide ((d.a.r6 (Int.toNat i)).f9 > d.a.f0) else false then true else false then true else false) (Tree.leaf (Ex.ret,true,V.cons (pt 0) (V.cons (V.bool true false) (V.cons q0 (ci ((d.a.n6:Nat):Int) (ci i V.nil)))),[Blk.var (ZM d.a),mO d,mN d,mH d])) (Tree.leaf (Ex.normal,true,V.cons (pt 0) (V.cons (V.bool true false) (V.cons q0 (ci ((d.a.n6:Nat):Int) (ci (IntKind.wrap .i64 (i + (1:Int))) V.nil)))),[Blk.var (ZM d.a),mO d,mN d,mH d])))
theorem pl2_round (d:Zc):Yp P (Zn P [QV] [] true) 67 10 4 4 146 [0,2,74,75,76] [(0,.own),(1,.own),(2,.own),(3,.own)] [] (ZbA d) (Zbu d) (fun i=>(bif decide (i < ((d.a.n6:Nat):Int)) then false else true)) (.exit 2) (pl2_R d):=fun B i z=>by kernel_rfl
def ZfJ (d:Zc) (k:Nat):Bool:=(pl2_R d k ()).early
abbrev pl2_ets (d:Zc) (i:Int) (z:Unit):V:=(.cons (V.ptr true 0 0 0 0) (.cons (V.bool true false) (.cons (V.rsl false 11 d.a.n6 fun jj=>ZT false (d.a.r6 jj)) (.cons (V.int false .i64 ((d.a.n6:Nat):Int)) (.cons .junk .nil)))))
def Zcg (d:Zc):Lp:=lpL 67 10 4 4 146 [0,2,74,75,76] [(0,.own),(1,.own),(2,.own),(3,.own)] [] (ZbA d) (Zbu d) (.exit 2) .ret () (fun _=>()) (ZfJ d) (Zb.n6 (Zc.a d)) (pl2_ets d) (Zbu d)
def pl2_need (d:Zc):Prop:=YP 4 [] (ZbA d) (Zbu d) () (ZbA d (0:Nat) ()) (Zbu d (0:Nat) ())
theorem pl2_fit (d:Zc):pl2_need d:=⟨rfl,⟨rfl,⟨rfl,fun _=>⟨rfl,rfl⟩⟩,⟨rfl,fun _=>⟨rfl,rfl⟩⟩,⟨rfl,fun _=>⟨rfl,rfl⟩⟩,trivial⟩⟩
theorem pl2_lp_ok (d:Zc) (hl:d.a.n6<=1000):(Zcg d).Ok P:=by
 refine Y4 (Zu hm hn (l:=[QV]) ⟨UO,trivial⟩ (ls:=[]) trivial true) rfl (by kernel_rfl) (pl2_round d) exN YB (fun _=>rfl) (step:=fun _ z=>z) (rd:=(fun _ t y=>())) (fun i z=>rfl) (fun i=>rfl) rfl (fun i hlt hg=>?_) (fun i z hi=>?_)
 ·have hltI:(i:Int) < (((Zb.n6 (Zc.a d)):Nat):Int):=by omega
  refine ⟨?_,⟨fun hb0=>trivial,fun hb0=>trivial⟩⟩
  all_goals (repeat' (first | exact rfl | exact fun _=>⟨rfl,rfl⟩ | apply And.intro | intro _))
  all_goals (try simp only [decide_eq_true_eq,decide_eq_false_iff_not,Bool.not_eq_true',Bool.not_eq_false'] at *)
  all_goals (try simp (disch:=omega) only [IntWalk.i64_in])
  all_goals (first | omega)
 ·have hw:=(IntWalk.i64_in ((i:Int) + 1) ⟨by omega,by omega⟩)
  refine ⟨?_,?_⟩
  all_goals (first | exact ⟨rfl,YD (ts:=ZbA d) (a:=()) hw rfl,Z7 _⟩ | exact ⟨rfl,rfl,(by repeat' (first | exact Le.refl _ | exact Le.junk _ rfl | apply Le.cons)),Z7 _⟩)
end Go.Proofs.YtnjjailadijdlaaGreatDoor
end
