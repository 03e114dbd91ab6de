/- FeCheck -/
import Derived.Test.YtnjjailadijdlaaGreatDoorMAt
import Derived.Test.YtnjjailadijdlaaGreatDoorMAr
import Derived.Test.YtnjjailadijdlaaGreatDoorMAo
import Derived.Test.YtnjjailadijdlaaGreatDoorMAs
set_option maxRecDepth 100000
set_option linter.unusedVariables false
set_option linter.unusedSimpArgs false
noncomputable section
namespace Go.Proofs.YtnjjailadijdlaaGreatDoor
open Go.Fw
def eCheck_T (a:Yl):Tree V:=
 Tree.need (Zib a) (Tree.node (bif Zp (Zey a) a.n0 then true else false) (Tree.leaf (V.int true .i64 (260:Int))) (Tree.need (Zhk a) (Tree.node (bif Zp (Ze3 a) a.n0 then true else false) (Tree.leaf (V.int true .i64 (260:Int))) (Tree.leaf (V.int true .i64 (0:Int))))))
theorem ZlN (a:Yl):ZQ (Zn P [V6,c_eAt] [ec1_lp a,ec2_lp a] true) 400 143 (.cons (.agg (Zep false a)) .nil) = eCheck_T a:=by kernel_rfl
def Uj (a:Yl):Int:=
  (bif bif Zp (Zey a) a.n0 then true else false then (260:Int) else bif bif Zp (Ze3 a) a.n0 then true else false then (260:Int) else (0:Int))
theorem Zka (a:Yl) (h0:a.n0<=1000):Zi P 143 (.cons (.agg (Zep false a)) .nil) (.int false IntKind.i64 (Uj a)):=
 YI (Zu hm hn (l:=[V6,c_eAt]) ⟨Zeq,ZhH,trivial⟩ (ls:=[ec1_lp a,ec2_lp a]) ⟨ec1_lp_ok a h0,ec2_lp_ok a h0,trivial⟩ true) 400 (Has.of hn Tryz.func143 rfl) (ZlN a) (Tree.Pre.mk (by refine ⟨?_,⟨fun _=>trivial,fun _=>⟨?_,⟨fun _=>trivial,fun _=>trivial⟩⟩⟩⟩; all_goals (first | exact ec1_fit a | exact ec2_fit a | (((repeat' (first | exact rfl | exact fun _=>⟨rfl,rfl⟩ | apply And.intro | intro _)); all_goals (try simp only [decide_eq_true_eq,decide_eq_false_iff_not] at *); all_goals omega))))) (by kernel_rfl) (by kernel_rfl)
def Zd4:Con:=Yf 143 (fun x=>(.cons (.agg (Zep false (GU x.hd.inner))) .nil)) (fun x=>(.int false IntKind.i64 (Uj (GU x.hd.inner)))) (fun x=>(GU x.hd.inner).n0<=1000)
theorem Zlb:Zd4.Ok P:=Yt (fun x h=>Zka _ h)
def vAlarm_T (a:YM):Tree V:=
 Tree.leaf (V.bool false (bif bif decide (a.f0 >= (1:Int)) then decide (a.f0<=(16:Int)) else false then bif decide (a.f1 >= (1:Int)) then bif decide (a.f1<=(32:Int)) then bif a.f2==(0:Int) then true else bif decide (a.f2 >= (1000:Int)) then decide (a.f2<=(1125899906842624:Int)) else false else false else false else false))
theorem Zke (a:YM):ZQ (Zn P [] [] true) 400 225 (.cons (.agg (Zl false a)) .nil) = vAlarm_T a:=by kernel_rfl
def ZfF (a:YM):Bool:=
  (bif bif decide (YM.f0 a >= (1:Int)) then decide (YM.f0 a<=(16:Int)) else false then bif decide (YM.f1 a >= (1:Int)) then bif decide (YM.f1 a<=(32:Int))
  then bif YM.f2 a==(0:Int) then true else bif decide (YM.f2 a >= (1000:Int)) then decide (YM.f2 a<=(1125899906842624:Int)) else false else false else false
  else false)
theorem ZlR (a:YM)  : Zi P 225 (.cons (.agg (Zl false a)) .nil) (.bool false (ZfF a)):=
 YI (Zu hm hn (l:=[]) trivial (ls:=[]) trivial true) 400 (Has.of hn Tryz.func225 rfl) (Zke a) (Tree.Pre.mk True.intro) (by kernel_rfl) (by kernel_rfl)
def Za7:Con:=XT 225 (.cons (.agg patDAlarm) .nil) (fun x=>true) (fun x=>(.bool false (ZfF (ZO x.hd.inner)))) (fun x=>(.cons (.agg (Zl false (ZO x.hd.inner))) .nil)) (fun x=>True)
theorem Zg7:Za7.Ok P:=WQ (fun _=>rfl) (fun x h=>True.intro) (fun x h=>ZlR _)
abbrev Zak (a:YS) (i:Int) (z:Int):V:=(.cons (.ptr true 0 0 0 0) (.cons (.int true .i64 0) (.cons (.int false .i64 (z)) (.cons (.rsl false 3 (YS.n2 a) (fun j=>Zl false (a.r2 j))) (.cons (.int false .i64 (((YS.n2 a):Nat):Int)) (.cons (.int false .i64 i) .nil))))))
abbrev ZbK (a:YS) (i:Int) (z:Int):List Blk:=[.var (.cons (.int false .i64 (YS.f0 a)) (.cons (.rsl false 2 (YS.n1 a) (fun j=>Zr false (a.r1 j))) (.cons (.rsl false 3 (YS.n2 a) (fun j=>Zl false (a.r2 j))) .nil)))]
def vc1_R (a:YS) (i:Int) (z:Int):Tree Rd:=
 let q1:=(V.rsl false 3 a.n2 fun jj=>Zl false (a.5 jj))
 let q0:=[Blk.var (ci a.f0 (V.cons (V.rsl false 2 a.n1 fun jj=>Zr false (a.3 jj)) (V.cons q1 V.nil)))]
 Tree.need ((0:Int)<=i/\i < ((a.n2:Nat):Int)) (Tree.node (bif bif bif !ZfF (ZO (Zl false (a.5 (Int.toNat i)))) then true else decide ((a.5 (Int.toNat i)).f0<=z) then true else false then true else false) (Tree.leaf (Ex.ret,true,V.cons (pt 0) (V.cons (V.int true .i64 (280:Int)) (ci z (V.cons q1 (ci ((a.n2:Nat):Int) (ci i V.nil))))),q0)) (Tree.leaf (Ex.normal,true,V.cons (pt 0) (V.cons (V.int true .i64 (0:Int)) (ci (a.5 (Int.toNat i)).f0 (V.cons q1 (ci ((a.n2:Nat):Int) (ci (IntKind.wrap .i64 (i + (1:Int))) V.nil))))),q0)))
theorem vc1_round (a:YS):Yp P (Zn P [Za7] [] true) 139 3 1 1 56 [1,2,3,12,13,14] [(0,.own)] [] (Zak a) (ZbK a) (fun i=>(bif decide (i < ((a.n2:Nat):Int)) then false else true)) (.exit 0) (vc1_R a):=fun B i z=>by kernel_rfl
def vc1_step (a:YS) (k:Nat) (z:Int):Int:=(vc1_R a k z).carry ((fun t y=>(t.nth 2).toInt)) z
def vc1_acc (a:YS) (k:Nat):Int:=ZI 0 (vc1_step a) k
def ZfL (a:YS) (k:Nat):Bool:=(vc1_R a k (vc1_acc a k)).early
abbrev vc1_ets (a:YS) (i:Int) (z:Int):V:=(.cons (V.ptr true 0 0 0 0) (.cons (V.int true .i64 (280:Int)) (.cons .junk (.cons (V.rsl false 3 a.n2 fun jj=>Zl false (a.5 jj)) (.cons (V.int false .i64 ((a.n2:Nat):Int)) (.cons .junk .nil))))))
def vc1_lp (a:YS):Lp:=lpL 139 3 1 1 56 [1,2,3,12,13,14] [(0,.own)] [] (Zak a) (ZbK a) (.exit 0) .ret 0 (vc1_acc a) (ZfL a) (YS.n2 a) (vc1_ets a) (ZbK a)
def Zim (a:YS):Prop:=YP 1 [] (Zak a) (ZbK a) 0 (Zak a (0:Nat) 0) (ZbK a (0:Nat) 0)
theorem vc1_fit (a:YS):Zim a:=⟨rfl,⟨rfl,trivial⟩⟩
theorem vc1_lp_ok (a:YS) (hl:(YS.n2 a)<=1000):(vc1_lp a).Ok P:=by
 refine Y4 (Zu hm hn (l:=[Za7]) ⟨Zg7,trivial⟩ (ls:=[]) trivial true) rfl (by kernel_rfl) (vc1_round a) exN YB (fun _=>rfl) (rd:=(fun _ t y=>(t.nth 2).toInt)) (fun i z=>rfl) (fun i=>rfl) rfl (fun i hlt hg=>?_) (fun i z hi=>?_)
 ·have hltI:(i:Int) < (((YS.n2 a):Nat):Int):=by omega
  refine ⟨?_,⟨fun hb0=>trivial,fun hb0=>trivial⟩⟩
  all_goals (repeat' (first | exact rfl | exact fun _=>⟨rfl,rfl⟩ | apply And.intro | intro _))
  all_goals (try simp only [decide_eq_true_eq,decide_eq_false_iff_not,Bool.not_eq_true',Bool.not_eq_false'] at *)
  all_goals (try simp (disch:=omega) only [IntWalk.i64_in])
  all_goals (first | omega)
 ·have hw:=(IntWalk.i64_in ((i:Int) + 1) ⟨by omega,by omega⟩)
  refine ⟨?_,?_⟩
  all_goals (first | exact ⟨rfl,YD (ts:=Zak a) hw rfl,Z7 _⟩ | exact ⟨rfl,rfl,(by repeat' (first | exact Le.refl _ | exact Le.junk _ rfl | apply Le.cons)),Z7 _⟩)
abbrev wl_ts (a:Yc) (i:Int) (z:Unit):V:=(.cons (.ptr true 0 0 0 0) (.cons (.int true .i64 0) (.cons (.rsl false 2 (Yc.n1 a) (fun j=>Zr false (a.r1 j))) (.cons (.int false .i64 (((Yc.n1 a):Nat):Int)) (.cons (.int false .i64 i) .nil)))))
abbrev wl_ys (a:Yc) (i:Int) (z:Unit):List Blk:=[.var (.cons (.int false .i64 (Yc.f0 a)) (.cons (.rsl false 2 (Yc.n1 a) (fun j=>Zr false (a.r1 j))) .nil))]
def wl_R (a:Yc) (i:Int) (z:Unit):Tree Rd:=
 let q0:=(V.rsl false 2 a.n1 fun jj=>Zr false (a.3 jj))
 let q1:=[Blk.var (ci a.f0 (V.cons q0 V.nil))]
 let q2:=((a.3 (Int.toNat i)).f1 > (1125899906842624:Int))
 Tree.need (((0:Int)<=i/\i < ((a.n1:Nat):Int))/\((!bif decide ((a.3 (Int.toNat i)).f0 >= (0:Int)) then decide ((a.3 (Int.toNat i)).f0 < (32:Int)) else false) = false->decide ((a.3 (Int.toNat i)).f1<=a.f0) = false->decide q2 = false->decide (i > (0:Int)) = true->(0:Int)<=IntKind.wrap .i64 (i - (1:Int))/\IntKind.wrap .i64 (i - (1:Int)) < ((a.n1:Nat):Int))) (Tree.node (bif bif bif !bif decide ((a.3 (Int.toNat i)).f0 >= (0:Int)) then decide ((a.3 (Int.toNat i)).f0 < (32:Int)) else false then true else bif decide ((a.3 (Int.toNat i)).f1<=a.f0) then true else bif decide q2 then true else bif decide (i > (0:Int)) then decide ((a.3 (Int.toNat (IntKind.wrap .i64 (i - (1:Int))))).f0 >= (a.3 (Int.toNat i)).f0) else false then true else false then true else false) (Tree.leaf (Ex.ret,true,V.cons (pt 0) (V.cons (V.int true .i64 (250:Int)) (V.cons q0 (ci ((a.n1:Nat):Int) (ci i V.nil)))),q1)) (Tree.leaf (Ex.normal,true,V.cons (pt 0) (V.cons (V.int true .i64 (0:Int)) (V.cons q0 (ci ((a.n1:Nat):Int) (ci (IntKind.wrap .i64 (i + (1:Int))) V.nil)))),q1)))
theorem wl_round (a:Yc):Yp P (Zn P [] [] true) 226 4 1 1 54 [1,2,14,15,16] [(0,.own)] [] (wl_ts a) (wl_ys a) (fun i=>(bif decide (i < ((a.n1:Nat):Int)) then false else true)) (.exit 0) (wl_R a):=fun B i z=>by kernel_rfl
def wl_bad (a:Yc) (k:Nat):Bool:=(wl_R a k ()).early
abbrev wl_ets (a:Yc) (i:Int) (z:Unit):V:=(.cons (V.ptr true 0 0 0 0) (.cons (V.int true .i64 (250:Int)) (.cons (V.rsl false 2 a.n1 fun jj=>Zr false (a.3 jj)) (.cons (V.int false .i64 ((a.n1:Nat):Int)) (.cons .junk .nil)))))
def wl_lp (a:Yc):Lp:=lpL 226 4 1 1 54 [1,2,14,15,16] [(0,.own)] [] (wl_ts a) (wl_ys a) (.exit 0) .ret () (fun _=>()) (wl_bad a) (Yc.n1 a) (wl_ets a) (wl_ys a)
def wl_need (a:Yc):Prop:=YP 1 [] (wl_ts a) (wl_ys a) () (wl_ts a (0:Nat) ()) (wl_ys a (0:Nat) ())
theorem wl_fit (a:Yc):wl_need a:=⟨rfl,⟨rfl,trivial⟩⟩
theorem wl_lp_ok (a:Yc) (hl:(Yc.n1 a)<=1000):(wl_lp a).Ok P:=by
 refine Y4 (Zu hm hn (l:=[]) trivial (ls:=[]) trivial true) rfl (by kernel_rfl) (wl_round a) exN YB (fun _=>rfl) (step:=fun _ z=>z) (rd:=(fun _ t y=>())) (fun i z=>rfl) (fun i=>rfl) rfl (fun i hlt hg=>?_) (fun i z hi=>?_)
 ·have hltI:(i:Int) < (((Yc.n1 a):Nat):Int):=by omega
  refine ⟨?_,⟨fun hb0=>trivial,fun hb0=>trivial⟩⟩
  all_goals (repeat' (first | exact rfl | exact fun _=>⟨rfl,rfl⟩ | apply And.intro | intro _))
  all_goals (try simp only [decide_eq_true_eq,decide_eq_false_iff_not,Bool.not_eq_true',Bool.not_eq_false'] at *)
  all_goals (try simp (disch:=omega) only [IntWalk.i64_in])
  all_goals (first | omega)
 ·have hw:=(IntWalk.i64_in ((i:Int) + 1) ⟨by omega,by omega⟩)
  refine ⟨?_,?_⟩
  all_goals (first | exact ⟨rfl,YD (ts:=wl_ts a) (a:=()) hw rfl,Z7 _⟩ | exact ⟨rfl,rfl,(by repeat' (first | exact Le.refl _ | exact Le.junk _ rfl | apply Le.cons)),Z7 _⟩)
def wlCheck_T (a:Yc):Tree V:=
 Tree.node (bif bif decide (a.f0 < (0:Int)) then true else decide (a.f0 > (1125899906842624:Int)) then true else false) (Tree.leaf (V.int true .i64 (250:Int))) (Tree.need (wl_need a) (Tree.node (bif Zp (wl_bad a) a.n1 then true else false) (Tree.leaf (V.int true .i64 (250:Int))) (Tree.leaf (V.int true .i64 (0:Int)))))
theorem ZkK (a:Yc):ZQ (Zn P [] [wl_lp a] true) 400 226 (.cons (.agg (Kv false a)) .nil) = wlCheck_T a:=by kernel_rfl
def U5 (a:Yc):Int:=
  (bif bif bif decide (a.f0 < (0:Int)) then true else decide (a.f0 > (1125899906842624:Int)) then true else false then (250:Int) else bif bif Zp (wl_bad a) a.n1 then
  true else false then (250:Int) else (0:Int))
theorem Zja (a:Yc) (h0:a.n1<=1000):Zi P 226 (.cons (.agg (Kv false a)) .nil) (.int false IntKind.i64 (U5 a)):=
 YI (Zu hm hn (l:=[]) trivial (ls:=[wl_lp a]) ⟨wl_lp_ok a h0,trivial⟩ true) 400 (Has.of hn Tryz.func226 rfl) (ZkK a) (Tree.Pre.mk (by refine ⟨fun _=>trivial,fun _=>⟨?_,⟨fun _=>trivial,fun _=>trivial⟩⟩⟩; all_goals (first | exact wl_fit a | (repeat' (first | exact rfl | apply And.intro))))) (by kernel_rfl) (by kernel_rfl)
def ZaV:Con:=Yf 226 (fun x=>(.cons (.agg (Kv false (ZA x.hd.inner))) .nil)) (fun x=>(.int false IntKind.i64 (U5 (ZA x.hd.inner)))) (fun x=>(ZA x.hd.inner).n1<=1000)
theorem Zie:ZaV.Ok P:=Yt (fun x h=>Zja _ h)
abbrev Zd5 (d:Yc) (x:Int) (i j:Int):V:=(.cons (.rsl false 2 d.n1 (fun j=>Zr false (d.r1 j))) (.cons (.int false .i64 x) (.cons (.fn (.func 315) .nil (.cons (.ptr true 1 0 0 0) .nil)) (.cons (.int true .i64 0) (.cons (.bool true false) (.cons (.int false .i64 ((d.n1:Nat):Int)) (.cons (.int false .i64 i) (.cons (.int false .i64 j) .nil))))))))
abbrev ZdJ (d:Yc) (x:Int):List Blk:=[.var (.cons (.int false .i64 d.f0) (.cons (.rsl false 2 d.n1 (fun j=>Zr false (d.r1 j))) .nil)),.var (.cons (.fn (.func 281) .nil .nil) .nil)]
def bTimer_T (d:Yc) (x:Int) (i j:Int):Tree (Ex×Bool×V×List Blk):=
 let q0:=V.rsl false 2 d.n1 fun j=>Zr false (d.r1 j)
 let q10:=[Blk.var (ci d.f0 (V.cons q0 V.nil)),Blk.var (V.cons (V.fn (Fn.func (281:FuncId)) V.nil V.nil) V.nil)]
 let q11:=V.fn (Fn.func (315:FuncId)) V.nil (V.cons (pt 1) V.nil)
 let q12:=vi ((d.n1:Nat):Int)
 let q13:=V.int true .i64 (0:Int)
 let q14:=vi x
 Tree.node (decide (i < j)) (Tree.need ((0:Int)<=half i j/\half i j < ((d.n1:Nat):Int)) (Tree.node (decide (X6 (d.r1 (Int.toNat (half i j))).f0 x < (0:Int))) (Tree.leaf (Ex.normal,true,V.cons q0 (V.cons q14 (V.cons q11 (V.cons q13 (V.cons (V.bool true false) (V.cons q12 (ci (IntKind.wrap .i64 (half i j + (1:Int))) (ci j V.nil))))))),q10)) (Tree.leaf (Ex.normal,true,V.cons q0 (V.cons q14 (V.cons q11 (V.cons q13 (V.cons (V.bool true false) (V.cons q12 (ci i (ci (half i j) V.nil))))))),q10)))) (Tree.leaf (Ex.exit 0,true,V.cons q0 (V.cons q14 (V.cons q11 (V.cons q13 (V.cons (V.bool true false) (V.cons q12 (ci i (ci j V.nil))))))),q10))
theorem ZjQ (B:Base) (d:Yc) (x:Int) (i j:Int):((ev (Zo P [Qs] [314]) 400 314 (Qu P 314 3) B (Yg 2 49 [0,1,2,6,7,8,9,10] [(0,.own),(1,.own)] (Zd5 d x i j) (ZdJ d x))).bind fun x=>Tree.leaf (x.1,vwN 2 2 49 [0,1,2,6,7,8,9,10] [(0,.own),(1,.own)] x.2)) = bTimer_T d x i j:=by kernel_rfl
def ZdN (d:Yc) (x:Int) (k:Nat):Bool:=(fun (h:Int)=>decide (X6 (Vi.f0 (d.r1 (Int.toNat (h)))) x < (0:Int))) k
def XO (d:Yc) (x:Int):Nat:=Xt (ZdN d x) d.n1 0 d.n1
def ZcD (d:Yc) (x:Int):Lp:=⟨314,3,fun _ s=>match vwN 2 2 49 [0,1,2,6,7,8,9,10] [(0,.own),(1,.own)] s with
 | (true,(.cons (.rsl _ 2 nt0 ft0) (.cons (.int _ .i64 tx) (.cons (.fn (.func 315) .nil (.cons (.ptr true 1 0 0 0) .nil)) (.cons (.int _ .i64 t3) (.cons (.bool _ t4) (.cons (.int _ .i64 t5) (.cons (.int _ .i64 t6) (.cons (.int _ .i64 t7) .nil)))))))),[.var (.cons (.int _ .i64 w0) (.cons (.rsl _ 2 nu01 fu01) .nil)),.var (.cons (.fn (.func 281) .nil .nil) .nil)])=>bif Nat.beq s.n 2 then .need (d.n1 = nt0/\(fun j=>Zr false (d.r1 j)) = ft0/\x = tx/\0 = t3/\false = t4/\((d.n1:Nat):Int) = t5/\0 = t6/\((d.n1:Nat):Int) = t7/\d.f0 = w0/\d.n1 = nu01/\(fun j=>Zr false (d.r1 j)) = fu01)
   (.leaf (.exit 0,Yg 2 49 [0,1,2,6,7,8,9,10] [(0,.own),(1,.own)] (Zd5 d x ((XO d x:Nat):Int) ((XO d x:Nat):Int)) (ZdJ d x))) else .stuck
 | _=>.stuck⟩
theorem ZiP (d:Yc) (x:Int) (hl:d.n1<=1000):(ZcD d x).Ok P:=by
 refine KM (by kernel_rfl) fun hin B s Q hq=>?_
 simp only [ZcD] at hq hin ⊢
 split at hq
 ·rename_i q1 nt0 ft0 q2 tx q3 t3 q4 t4 q5 t5 q6 t6 q7 t7 q8 w0 q9 nu01 fu01 heq
  cases hsn:Nat.beq s.n 2
  ·rw [hsn] at hq; exact hq.elim
  ·rw [hsn] at hq
   obtain ⟨⟨rfl,rfl,rfl,rfl,rfl,rfl,rfl,rfl,rfl,rfl,rfl⟩,hq⟩:=hq
   have hsame:WE 2 2 49 [0,1,2,6,7,8,9,10] [(0,.own),(1,.own)] s (Zd5 d x 0 ((d.n1:Nat):Int)) (ZdJ d x):=by
    refine ⟨by rw [heq],by rw [heq]; exact Le.soft rfl,by rw [heq]; exact ⟨LeK.var (Le.soft rfl),LeK.var (Le.soft rfl),trivial⟩⟩
   refine Za5 (k:=400) (f:=314) (Yh hm hn (l:=[Qs]) ⟨UR,trivial⟩) rfl hin (ZdN d x) d.n1 (fun i j=>Zd5 d x i j) (ZdJ d x) Q (fun i j=>ZjQ B d x i j) (fun i j hij hjn=>?_) hq (Nat.eq_of_beq_eq_true hsn) hsame
   refine ⟨fun hc=>?_,fun hc=>?_⟩
   ·have hlt:i < j:=by have:=of_decide_eq_true hc; omega
    have hh:=ZbH (i:=i) (j:=j) (by omega)
    refine ⟨by rw [hh]; omega,fun hb=>?_,fun hb=>?_⟩
    ·rw [hh] at hb ⊢
     rw [IntWalk.i64_in ((((i + j) / 2:Nat):Int) + 1) ⟨by omega,by omega⟩]
     exact ⟨rfl,hlt,⟨LeK.refl _,LeK.refl _,trivial⟩,fun _=>Le.soft rfl,fun hl=>Bool.noConfusion ((show ZdN d x ((i + j) / 2) = true from hb).symm.trans hl)⟩
    ·rw [hh] at hb ⊢
     exact ⟨rfl,hlt,⟨LeK.refl _,LeK.refl _,trivial⟩,fun hl=>Bool.noConfusion ((show ZdN d x ((i + j) / 2) = false from hb).symm.trans hl),fun _=>Le.soft rfl⟩
   ·have hge:¬ (i:Int) < (j:Int):=fun h=>by rw [decide_eq_true h] at hc; cases hc
    have e:i = j:=by omega
    subst e
    exact ⟨rfl,rfl,⟨LeK.refl _,LeK.refl _,trivial⟩,Le.soft rfl,rfl⟩
 ·exact hq.elim
def wlFind_T (a:Yc) (b:Int):Tree V:=
 let q0:=((XO a b:Nat):Int)
 let q1:=(ci a.f0 (V.cons (V.rsl false 2 a.n1 fun j=>Zr false (a.3 j)) V.nil))
 let q2:=(q0 < ((a.n1:Nat):Int))
 Tree.need (a.n1 = a.n1/\((fun j=>Zr false (a.3 j)) = fun j=>Zr false (a.3 j))/\b = b/\(0:Int) = (0:Int)/\false = false/\((a.n1:Nat):Int) = ((a.n1:Nat):Int)/\(0:Int) = (0:Int)/\((a.n1:Nat):Int) = ((a.n1:Nat):Int)/\a.f0 = a.f0/\a.n1 = a.n1/\(fun j=>Zr false (a.3 j)) = fun j=>Zr false (a.3 j)) (Tree.need (decide q2 = true->(0:Int)<=q0/\q0 < ((a.n1:Nat):Int)) (Tree.need ((bif decide q2 then X6 (a.3 (Int.toNat q0)).f0 b==(0:Int) else false) = true->V.cons (V.agg q1) V.nil = V.cons (V.agg q1) V.nil/\a.n1<=(1000:Nat)) (Tree.leaf (V.tup (ci (bif bif decide q2 then X6 (a.3 (Int.toNat q0)).f0 b==(0:Int) else false then bif decide q2 then q0 else q0 else bif decide q2 then q0 else q0) (V.cons (V.bool false (bif bif decide q2 then X6 (a.3 (Int.toNat q0)).f0 b==(0:Int) else false then U5 (ZA q1)==(0:Int) else false)) V.nil))))))
theorem Zkj (a:Yc) (b:Int):ZQ (Zn P [ZaV,Qs] [ZcD a b] true) 400 229 (.cons (.agg (Kv false a)) (.cons (.int false .i64 b) .nil)) = wlFind_T a b:=by kernel_rfl
def Jm (a:Yc) (b:Int):Int:=
  (bif bif decide (((XO a b:Nat):Int) < ((a.n1:Nat):Int)) then X6 (a.3 (Int.toNat ((XO a b:Nat):Int))).f0 b==(0:Int) else false then bif decide
  (((XO a b:Nat):Int) < ((a.n1:Nat):Int)) then ((XO a b:Nat):Int) else ((XO a b:Nat):Int) else bif decide (((XO a b:Nat):Int) <
  ((a.n1:Nat):Int)) then ((XO a b:Nat):Int) else ((XO a b:Nat):Int))
def V8 (a:Yc) (b:Int):Bool:=
  (bif bif decide (((XO a b:Nat):Int) < ((a.n1:Nat):Int)) then X6 (a.3 (Int.toNat ((XO a b:Nat):Int))).f0 b==(0:Int) else false then U5
  (ZA (V.cons (V.int false .i64 a.f0) (V.cons (V.rsl false 2 a.n1 fun j=>Zr false (a.3 j)) V.nil)))==(0:Int) else false)
theorem Zjz (a:Yc) (b:Int) (h0:a.n1<=1000):Zi P 229 (.cons (.agg (Kv false a)) (.cons (.int false .i64 b) .nil)) (.tup (.cons (.int false IntKind.i64 (Jm a b)) (.cons (.bool false (V8 a b)) .nil))):=
 YI (Zu hm hn (l:=[ZaV,Qs]) ⟨Zie,UR,trivial⟩ (ls:=[ZcD a b]) ⟨ZiP a b h0,trivial⟩ true) 400 (Has.of hn Tryz.func229 rfl) (Zkj a b) (Tree.Pre.mk (by refine ⟨?_,⟨?_,⟨?_,trivial⟩⟩⟩; all_goals (first | exact bTimer_fit a b | (((repeat' (first | exact rfl | exact fun _=>⟨rfl,rfl⟩ | apply And.intro | intro _)); all_goals (try simp only [decide_eq_true_eq,decide_eq_false_iff_not] at *); all_goals omega))))) (by kernel_rfl) (by kernel_rfl)
def Zer:Con:=Yf 229 (fun x=>(.cons (.agg (Kv false (ZA x.hd.inner))) (.cons (.int false .i64 x.tl.hd.toInt) .nil))) (fun x=>(.tup (.cons (.int false IntKind.i64 (Jm (ZA x.hd.inner) x.tl.hd.toInt)) (.cons (.bool false (V8 (ZA x.hd.inner) x.tl.hd.toInt)) .nil)))) (fun x=>(ZA x.hd.inner).n1<=1000)
theorem Zkq:Zer.Ok P:=Yt (fun x h=>Zjz _ _ h)
theorem Zf5 (d:Yc) (b:Int):0<=Jm d b/\Jm d b<=d.n1/\(V8 d b = true->Jm d b < d.n1):=by
 have h:XO d b<=d.n1:=Zdi _ _ _ (Nat.zero_le _)
 have e:Jm d b = (XO d b:Int):=by
  unfold Jm
  generalize (bif decide (((XO d b:Nat):Int) < ((Yc.n1 d:Nat):Int)) then X6 (Vi.f0 (d.r1 (Int.toNat ((XO d b:Nat):Int)))) b==(0:Int) else false) = c
  cases c <;> cases decide (((XO d b:Nat):Int) < ((Yc.n1 d:Nat):Int)) <;> rfl
 rw [e]
 refine ⟨by omega,by omega,fun h1=>?_⟩
 unfold V8 at h1
 cases hc:decide (((XO d b:Nat):Int) < ((Yc.n1 d:Nat):Int)) with
 | true=>exact of_decide_eq_true hc
 | false=>rw [hc] at h1; cases h1
def wlAt_T (a:Yc) (b:Int):Tree V:=
 let q0:=(ci a.f0 (V.cons (V.rsl false 2 a.n1 fun j=>Zr false (a.3 j)) V.nil))
 Tree.need (V.cons (V.agg q0) (ci b V.nil) = V.cons (V.agg q0) (ci b V.nil)/\a.n1<=(1000:Nat)) (Tree.node (bif !V8 (ZA q0) b then true else false) (Tree.leaf (V.tup (V.cons (V.int true .i64 (0:Int)) (V.cons (V.bool true false) V.nil)))) (Tree.need ((0:Int)<=Jm (ZA q0) b/\Jm (ZA q0) b < ((a.n1:Nat):Int)) (Tree.leaf (V.tup (ci (a.3 (Int.toNat (Jm (ZA q0) b))).f1 (V.cons (V.bool true true) V.nil))))))
theorem wlAt_tree (a:Yc) (b:Int):ZQ (Zn P [Zer] [] true) 400 141 (.cons (.agg (Kv false a)) (.cons (.int false .i64 b) .nil)) = wlAt_T a b:=by kernel_rfl
def Zcy (a:Yc) (b:Int):Int:=
  (bif bif !V8 (ZA (V.cons (V.int false .i64 a.f0) (V.cons (V.rsl false 2 a.n1 fun j=>Zr false (a.3 j)) V.nil))) b then true else false then (0:Int)
  else (a.3 (Int.toNat (Jm (ZA (V.cons (V.int false .i64 a.f0) (V.cons (V.rsl false 2 a.n1 fun j=>Zr false (a.3 j)) V.nil))) b))).f1)
def Z0 (a:Yc) (b:Int):Bool:=
  (bif bif !V8 (ZA (V.cons (V.int false .i64 a.f0) (V.cons (V.rsl false 2 a.n1 fun j=>Zr false (a.3 j)) V.nil))) b then true else false then false else
  true)
theorem ZkN (a:Yc) (b:Int) (h0:a.n1<=1000):Zi P 141 (.cons (.agg (Kv false a)) (.cons (.int false .i64 b) .nil)) (.tup (.cons (.int false IntKind.i64 (Zcy a b)) (.cons (.bool false (Z0 a b)) .nil))):=
 YI (Zu hm hn (l:=[Zer]) ⟨Zkq,trivial⟩ (ls:=[]) trivial true) 400 (Has.of hn Tryz.func141 rfl) (wlAt_tree a b) (Tree.Pre.mk (by refine ⟨?_,⟨fun _=>trivial,fun _=>⟨?_,trivial⟩⟩⟩; all_goals (((repeat' (first | exact rfl | exact fun _=>⟨rfl,rfl⟩ | apply And.intro | intro _)); all_goals (try simp only [decide_eq_true_eq,decide_eq_false_iff_not] at *); all_goals (first | omega | exact (Zf5 _ _).1 | exact (Zf5 _ _).2.2 (nf ‹_›)))))) (by kernel_rfl) (by kernel_rfl)
def Zal:Con:=Yf 141 (fun x=>(.cons (.agg (Kv false (ZA x.hd.inner))) (.cons (.int false .i64 x.tl.hd.toInt) .nil))) (fun x=>(.tup (.cons (.int false IntKind.i64 (Zcy (ZA x.hd.inner) x.tl.hd.toInt)) (.cons (.bool false (Z0 (ZA x.hd.inner) x.tl.hd.toInt)) .nil)))) (fun x=>(ZA x.hd.inner).n1<=1000)
theorem ZgP:Zal.Ok P:=Yt (fun x h=>ZkN _ _ h)
abbrev Zd0 (n:Nat) (r:Nat->YM) (x:Int) (i j:Int):V:=(.cons (.rsl false 3 n (fun j=>Zl false (r j))) (.cons (.int false .i64 x) (.cons (.fn (.func 279) .nil .nil) (.cons (.int true .i64 0) (.cons (.bool true false) (.cons (.int false .i64 ((n:Nat):Int)) (.cons (.int false .i64 i) (.cons (.int false .i64 j) .nil))))))))
abbrev ZcJ (n:Nat) (r:Nat->YM) (x:Int):List Blk:=[]
def bAlarm_T (n:Nat) (r:Nat->YM) (x:Int) (i j:Int):Tree (Ex×Bool×V×List Blk):=
 let q0:=V.rsl false 3 n fun j=>Zl false (r j)
 let q8:=V.fn (Fn.func (279:FuncId)) V.nil V.nil
 let q9:=vi (n:Int)
 let q10:=V.int true .i64 (0:Int)
 let q11:=vi x
 Tree.node (decide (i < j)) (Tree.need ((0:Int)<=half i j/\half i j < (n:Int)) (Tree.node (decide (IntKind.wrap .i64 ((r (Int.toNat (half i j))).f0 - x) < (0:Int))) (Tree.leaf (Ex.normal,true,V.cons q0 (V.cons q11 (V.cons q8 (V.cons q10 (V.cons (V.bool true false) (V.cons q9 (ci (IntKind.wrap .i64 (half i j + (1:Int))) (ci j V.nil))))))),[])) (Tree.leaf (Ex.normal,true,V.cons q0 (V.cons q11 (V.cons q8 (V.cons q10 (V.cons (V.bool true false) (V.cons q9 (ci i (ci (half i j) V.nil))))))),[])))) (Tree.leaf (Ex.exit 0,true,V.cons q0 (V.cons q11 (V.cons q8 (V.cons q10 (V.cons (V.bool true false) (V.cons q9 (ci i (ci j V.nil))))))),[]))
theorem Zmb (B:Base) (n:Nat) (r:Nat->YM) (x:Int) (i j:Int):((ev (Zo P [] [278]) 400 278 (Qu P 278 3) B (Yg 0 49 [0,1,2,6,7,8,9,10] [] (Zd0 n r x i j) (ZcJ n r x))).bind fun x=>Tree.leaf (x.1,vwN 0 0 49 [0,1,2,6,7,8,9,10] [] x.2)) = bAlarm_T n r x i j:=by kernel_rfl
def ZcU (n:Nat) (r:Nat->YM) (x:Int) (k:Nat):Bool:=(fun (h:Int)=>decide (IntKind.wrap IntKind.i64 (YM.f0 (r (Int.toNat (h))) - x) < (0:Int))) k
def Ve (n:Nat) (r:Nat->YM) (x:Int):Nat:=Xt (ZcU n r x) n 0 n
def ZdC (n:Nat) (r:Nat->YM) (x:Int):Lp:=⟨278,3,fun _ s=>match vwN 0 0 49 [0,1,2,6,7,8,9,10] [] s with
 | (true,(.cons (.rsl _ 3 nt0 ft0) (.cons (.int _ .i64 tx) (.cons (.fn (.func 279) .nil .nil) (.cons (.int _ .i64 t3) (.cons (.bool _ t4) (.cons (.int _ .i64 t5) (.cons (.int _ .i64 t6) (.cons (.int _ .i64 t7) .nil)))))))),[])=>bif Nat.beq s.n 0 then .need (n = nt0/\(fun j=>Zl false (r j)) = ft0/\x = tx/\0 = t3/\false = t4/\((n:Nat):Int) = t5/\0 = t6/\((n:Nat):Int) = t7)
   (.leaf (.exit 0,Yg 0 49 [0,1,2,6,7,8,9,10] [] (Zd0 n r x ((Ve n r x:Nat):Int) ((Ve n r x:Nat):Int)) (ZcJ n r x))) else .stuck
 | _=>.stuck⟩
theorem ZiB (n:Nat) (r:Nat->YM) (x:Int) (hl:n<=1000):(ZdC n r x).Ok P:=by
 refine KM (by kernel_rfl) fun hin B s Q hq=>?_
 simp only [ZdC] at hq hin ⊢
 split at hq
 ·rename_i q1 nt0 ft0 q2 tx q3 t3 q4 t4 q5 t5 q6 t6 q7 t7 heq
  cases hsn:Nat.beq s.n 0
  ·rw [hsn] at hq; exact hq.elim
  ·rw [hsn] at hq
   obtain ⟨⟨rfl,rfl,rfl,rfl,rfl,rfl,rfl,rfl⟩,hq⟩:=hq
   have hsame:WE 0 0 49 [0,1,2,6,7,8,9,10] [] s (Zd0 n r x 0 ((n:Nat):Int)) (ZcJ n r x):=by
    refine ⟨by rw [heq],by rw [heq]; exact Le.soft rfl,by rw [heq]; exact trivial⟩
   refine Za5 (k:=400) (f:=278) (Yh hm hn (l:=[]) trivial) rfl hin (ZcU n r x) n (fun i j=>Zd0 n r x i j) (ZcJ n r x) Q (fun i j=>Zmb B n r x i j) (fun i j hij hjn=>?_) hq (Nat.eq_of_beq_eq_true hsn) hsame
   refine ⟨fun hc=>?_,fun hc=>?_⟩
   ·have hlt:i < j:=by have:=of_decide_eq_true hc; omega
    have hh:=ZbH (i:=i) (j:=j) (by omega)
    refine ⟨by rw [hh]; omega,fun hb=>?_,fun hb=>?_⟩
    ·rw [hh] at hb ⊢
     rw [IntWalk.i64_in ((((i + j) / 2:Nat):Int) + 1) ⟨by omega,by omega⟩]
     exact ⟨rfl,hlt,trivial,fun _=>Le.soft rfl,fun hl=>Bool.noConfusion ((show ZcU n r x ((i + j) / 2) = true from hb).symm.trans hl)⟩
    ·rw [hh] at hb ⊢
     exact ⟨rfl,hlt,trivial,fun hl=>Bool.noConfusion ((show ZcU n r x ((i + j) / 2) = false from hb).symm.trans hl),fun _=>Le.soft rfl⟩
   ·have hge:¬ (i:Int) < (j:Int):=fun h=>by rw [decide_eq_true h] at hc; cases hc
    have e:i = j:=by omega
    subst e
    exact ⟨rfl,rfl,trivial,Le.soft rfl,rfl⟩
 ·exact hq.elim
def vAtL_T (an:Nat) (a:Nat->YM) (b:Int):Tree V:=
 let q0:=((Ve an a b:Nat):Int)
 Tree.need (an = an/\((fun j=>Zl false (a j)) = fun j=>Zl false (a j))/\b = b/\(0:Int) = (0:Int)/\false = false/\(an:Int) = (an:Int)/\(0:Int) = (0:Int)/\(an:Int) = (an:Int)) (Tree.need (decide (q0 < (an:Int)) = true->(0:Int)<=q0/\q0 < (an:Int)) (Tree.leaf (V.tup (ci (bif decide (q0 < (an:Int)) then q0 else q0) (V.cons (V.bool false (bif decide (q0 < (an:Int)) then IntKind.wrap .i64 ((a (Int.toNat q0)).f0 - b)==(0:Int) else false)) V.nil)))))
theorem vAtL_tree (an:Nat) (a:Nat->YM) (b:Int):ZQ (Zn P [] [ZdC an a b] true) 400 227 (.cons (.rsl false 3 an fun j=>Zl false (a j)) (.cons (.int false .i64 b) .nil)) = vAtL_T an a b:=by kernel_rfl
def vAtL_r0 (an:Nat) (a:Nat->YM) (b:Int):Int:=
  (bif decide (((Ve an a b:Nat):Int) < (an:Int)) then ((Ve an a b:Nat):Int) else ((Ve an a b:Nat):Int))
def Z6 (an:Nat) (a:Nat->YM) (b:Int):Bool:=
  (bif decide (((Ve an a b:Nat):Int) < (an:Int)) then IntKind.wrap IntKind.i64 (YM.f0 (a (Int.toNat ((Ve an a b:Nat):Int))) - b)==(0:Int) else
  false)
theorem Zjh (an:Nat) (a:Nat->YM) (b:Int) (h0:an<=1000):Zi P 227 (.cons (.rsl false 3 an fun j=>Zl false (a j)) (.cons (.int false .i64 b) .nil)) (.tup (.cons (.int false IntKind.i64 (vAtL_r0 an a b)) (.cons (.bool false (Z6 an a b)) .nil))):=
 YI (Zu hm hn (l:=[]) trivial (ls:=[ZdC an a b]) ⟨ZiB an a b h0,trivial⟩ true) 400 (Has.of hn Tryz.func227 rfl) (vAtL_tree an a b) (Tree.Pre.mk (And.intro (by first | exact bAlarm_fit an a b | (((repeat' (first | exact rfl | exact fun _=>⟨rfl,rfl⟩ | apply And.intro | intro _)); all_goals (try simp only [decide_eq_true_eq,decide_eq_false_iff_not] at *); all_goals omega))) (And.intro (by first | exact bAlarm_fit an a b | (((repeat' (first | exact rfl | exact fun _=>⟨rfl,rfl⟩ | apply And.intro | intro _)); all_goals (try simp only [decide_eq_true_eq,decide_eq_false_iff_not] at *); all_goals omega))) True.intro))) (by kernel_rfl) (by kernel_rfl)
def c_vAtL:Con:=Yf 227 (fun x=>(.cons (.rsl false 3 x.hd.ZC fun j=>Zl false ((fun j=>ZO (x.hd.ZH j)) j)) (.cons (.int false .i64 x.tl.hd.toInt) .nil))) (fun x=>(.tup (.cons (.int false IntKind.i64 (vAtL_r0 x.hd.ZC (fun j=>ZO (x.hd.ZH j)) x.tl.hd.toInt)) (.cons (.bool false (Z6 x.hd.ZC (fun j=>ZO (x.hd.ZH j)) x.tl.hd.toInt)) .nil)))) (fun x=>x.hd.ZC<=1000)
theorem c_vAtL_ok:c_vAtL.Ok P:=Yt (fun x h=>Zjh _ _ _ h)
def vCheck_T (a:YS):Tree V:=
 let q0:=(ci a.f0 (V.cons (V.rsl false 2 a.n1 fun j=>Zr false (a.3 j)) V.nil))
 let q1:=(V.rsl false 3 a.n2 fun j=>Zl false (a.5 j))
 let q2:=(ci (10:Int) V.nil)
 let q3:=(ci (11:Int) V.nil)
 let q4:=(ci (12:Int) V.nil)
 let q5:=(ci (13:Int) V.nil)
 let q6:=(ci (14:Int) V.nil)
 let q7:=(ci (15:Int) V.nil)
 let q8:=(ci (1:Int) V.nil)
 let q9:=(ci (2:Int) V.nil)
 let q10:=(ci (3:Int) V.nil)
 let q11:=(ci (4:Int) V.nil)
 let q12:=(ci (5:Int) V.nil)
 let q13:=(ci (6:Int) V.nil)
 let q14:=(ci (7:Int) V.nil)
 let q15:=(ci (8:Int) V.nil)
 let q16:=(ci (9:Int) V.nil)
 let q17:=(Int.ofNat (nat_lit 10 + (1:Nat)))
 let q18:=(Int.ofNat (nat_lit 11 + (1:Nat)))
 let q19:=(Int.ofNat (nat_lit 12 + (1:Nat)))
 let q20:=(Int.ofNat (nat_lit 13 + (1:Nat)))
 let q21:=(Int.ofNat (nat_lit 1 + (1:Nat)))
 let q22:=(Int.ofNat (nat_lit 2 + (1:Nat)))
 let q23:=(Int.ofNat (nat_lit 3 + (1:Nat)))
 let q24:=(Int.ofNat (nat_lit 4 + (1:Nat)))
 let q25:=(Int.ofNat (nat_lit 5 + (1:Nat)))
 let q26:=(Int.ofNat (nat_lit 6 + (1:Nat)))
 let q27:=(Int.ofNat (nat_lit 7 + (1:Nat)))
 let q28:=(Int.ofNat (nat_lit 8 + (1:Nat)))
 let q29:=(Int.ofNat (nat_lit 9 + (1:Nat)))
 let q30:=(Tree.leaf (V.int true .i64 (280:Int)))
 let q31:=(Int.ofNat (nat_lit 14 + (1:Nat)))
 Tree.need (Zim a) (Tree.node (bif Zp (ZfL a) a.n2 then true else false) q30 (Tree.need (V.cons (V.agg q0) V.nil = V.cons (V.agg q0) V.nil/\a.n1<=(1000:Nat)) (Tree.node (bif U5 (ZA q0) != (0:Int) then true else false) q30 (Tree.need (((V.cons q1 q8 = V.cons q1 q8/\a.n2<=(1000:Nat))/\V.cons (V.agg q0) (ci (0:Int) V.nil) = V.cons (V.agg q0) (ci (0:Int) V.nil)/\a.n1<=(1000:Nat))/\((bif bif !Z0 (ZA q0) (Int.ofNat (0:Nat))==Z6 a.n2 (fun j=>ZO (Zl false (a.5 j))) (1:Int) then true else false then true else false) = false->((V.cons q1 q9 = V.cons q1 q9/\a.n2<=(1000:Nat))/\V.cons (V.agg q0) q8 = V.cons (V.agg q0) q8/\a.n1<=(1000:Nat))/\((bif bif !Z0 (ZA q0) (Int.ofNat (nat_lit 0 + (1:Nat)))==Z6 a.n2 (fun j=>ZO (Zl false (a.5 j))) q21 then true else false then true else false) = false->((V.cons q1 q10 = V.cons q1 q10/\a.n2<=(1000:Nat))/\V.cons (V.agg q0) q9 = V.cons (V.agg q0) q9/\a.n1<=(1000:Nat))/\((bif bif !Z0 (ZA q0) q21==Z6 a.n2 (fun j=>ZO (Zl false (a.5 j))) q22 then true else false then true else false) = false->((V.cons q1 q11 = V.cons q1 q11/\a.n2<=(1000:Nat))/\V.cons (V.agg q0) q10 = V.cons (V.agg q0) q10/\a.n1<=(1000:Nat))/\((bif bif !Z0 (ZA q0) q22==Z6 a.n2 (fun j=>ZO (Zl false (a.5 j))) q23 then true else false then true else false) = false->((V.cons q1 q12 = V.cons q1 q12/\a.n2<=(1000:Nat))/\V.cons (V.agg q0) q11 = V.cons (V.agg q0) q11/\a.n1<=(1000:Nat))/\((bif bif !Z0 (ZA q0) q23==Z6 a.n2 (fun j=>ZO (Zl false (a.5 j))) q24 then true else false then true else false) = false->((V.cons q1 q13 = V.cons q1 q13/\a.n2<=(1000:Nat))/\V.cons (V.agg q0) q12 = V.cons (V.agg q0) q12/\a.n1<=(1000:Nat))/\((bif bif !Z0 (ZA q0) q24==Z6 a.n2 (fun j=>ZO (Zl false (a.5 j))) q25 then true else false then true else false) = false->((V.cons q1 q14 = V.cons q1 q14/\a.n2<=(1000:Nat))/\V.cons (V.agg q0) q13 = V.cons (V.agg q0) q13/\a.n1<=(1000:Nat))/\((bif bif !Z0 (ZA q0) q25==Z6 a.n2 (fun j=>ZO (Zl false (a.5 j))) q26 then true else false then true else false) = false->((V.cons q1 q15 = V.cons q1 q15/\a.n2<=(1000:Nat))/\V.cons (V.agg q0) q14 = V.cons (V.agg q0) q14/\a.n1<=(1000:Nat))/\((bif bif !Z0 (ZA q0) q26==Z6 a.n2 (fun j=>ZO (Zl false (a.5 j))) q27 then true else false then true else false) = false->((V.cons q1 q16 = V.cons q1 q16/\a.n2<=(1000:Nat))/\V.cons (V.agg q0) q15 = V.cons (V.agg q0) q15/\a.n1<=(1000:Nat))/\((bif bif !Z0 (ZA q0) q27==Z6 a.n2 (fun j=>ZO (Zl false (a.5 j))) q28 then true else false then true else false) = false->((V.cons q1 q2 = V.cons q1 q2/\a.n2<=(1000:Nat))/\V.cons (V.agg q0) q16 = V.cons (V.agg q0) q16/\a.n1<=(1000:Nat))/\((bif bif !Z0 (ZA q0) q28==Z6 a.n2 (fun j=>ZO (Zl false (a.5 j))) q29 then true else false then true else false) = false->((V.cons q1 q3 = V.cons q1 q3/\a.n2<=(1000:Nat))/\V.cons (V.agg q0) q2 = V.cons (V.agg q0) q2/\a.n1<=(1000:Nat))/\((bif bif !Z0 (ZA q0) q29==Z6 a.n2 (fun j=>ZO (Zl false (a.5 j))) q17 then true else false then true else false) = false->((V.cons q1 q4 = V.cons q1 q4/\a.n2<=(1000:Nat))/\V.cons (V.agg q0) q3 = V.cons (V.agg q0) q3/\a.n1<=(1000:Nat))/\((bif bif !Z0 (ZA q0) q17==Z6 a.n2 (fun j=>ZO (Zl false (a.5 j))) q18 then true else false then true else false) = false->((V.cons q1 q5 = V.cons q1 q5/\a.n2<=(1000:Nat))/\V.cons (V.agg q0) q4 = V.cons (V.agg q0) q4/\a.n1<=(1000:Nat))/\((bif bif !Z0 (ZA q0) q18==Z6 a.n2 (fun j=>ZO (Zl false (a.5 j))) q19 then true else false then true else false) = false->((V.cons q1 q6 = V.cons q1 q6/\a.n2<=(1000:Nat))/\V.cons (V.agg q0) q5 = V.cons (V.agg q0) q5/\a.n1<=(1000:Nat))/\((bif bif !Z0 (ZA q0) q19==Z6 a.n2 (fun j=>ZO (Zl false (a.5 j))) q20 then true else false then true else false) = false->((V.cons q1 q7 = V.cons q1 q7/\a.n2<=(1000:Nat))/\V.cons (V.agg q0) q6 = V.cons (V.agg q0) q6/\a.n1<=(1000:Nat))/\((bif bif !Z0 (ZA q0) q20==Z6 a.n2 (fun j=>ZO (Zl false (a.5 j))) q31 then true else false then true else false) = false->(V.cons q1 (ci (16:Int) V.nil) = V.cons q1 (ci (16:Int) V.nil)/\a.n2<=(1000:Nat))/\V.cons (V.agg q0) q7 = V.cons (V.agg q0) q7/\a.n1<=(1000:Nat))))))))))))))))) (Tree.node (bif bif bif !Z0 (ZA q0) (Int.ofNat (0:Nat))==Z6 a.n2 (fun j=>ZO (Zl false (a.5 j))) (1:Int) then true else false then true else false then true else bif bif bif !Z0 (ZA q0) (Int.ofNat (nat_lit 0 + (1:Nat)))==Z6 a.n2 (fun j=>ZO (Zl false (a.5 j))) q21 then true else false then true else false then true else bif bif bif !Z0 (ZA q0) q21==Z6 a.n2 (fun j=>ZO (Zl false (a.5 j))) q22 then true else false then true else false then true else bif bif bif !Z0 (ZA q0) q22==Z6 a.n2 (fun j=>ZO (Zl false (a.5 j))) q23 then true else false then true else false then true else bif bif bif !Z0 (ZA q0) q23==Z6 a.n2 (fun j=>ZO (Zl false (a.5 j))) q24 then true else false then true else false then true else bif bif bif !Z0 (ZA q0) q24==Z6 a.n2 (fun j=>ZO (Zl false (a.5 j))) q25 then true else false then true else false then true else bif bif bif !Z0 (ZA q0) q25==Z6 a.n2 (fun j=>ZO (Zl false (a.5 j))) q26 then true else false then true else false then true else bif bif bif !Z0 (ZA q0) q26==Z6 a.n2 (fun j=>ZO (Zl false (a.5 j))) q27 then true else false then true else false then true else bif bif bif !Z0 (ZA q0) q27==Z6 a.n2 (fun j=>ZO (Zl false (a.5 j))) q28 then true else false then true else false then true else bif bif bif !Z0 (ZA q0) q28==Z6 a.n2 (fun j=>ZO (Zl false (a.5 j))) q29 then true else false then true else false then true else bif bif bif !Z0 (ZA q0) q29==Z6 a.n2 (fun j=>ZO (Zl false (a.5 j))) q17 then true else false then true else false then true else bif bif bif !Z0 (ZA q0) q17==Z6 a.n2 (fun j=>ZO (Zl false (a.5 j))) q18 then true else false then true else false then true else bif bif bif !Z0 (ZA q0) q18==Z6 a.n2 (fun j=>ZO (Zl false (a.5 j))) q19 then true else false then true else false then true else bif bif bif !Z0 (ZA q0) q19==Z6 a.n2 (fun j=>ZO (Zl false (a.5 j))) q20 then true else false then true else false then true else bif bif bif !Z0 (ZA q0) q20==Z6 a.n2 (fun j=>ZO (Zl false (a.5 j))) q31 then true else false then true else false then true else bif bif bif !Z0 (ZA q0) q31==Z6 a.n2 (fun j=>ZO (Zl false (a.5 j))) (Int.ofNat (nat_lit 15 + (1:Nat))) then true else false then true else false then true else false) q30 (Tree.leaf (V.int true .i64 (0:Int))))))))
theorem Zj1 (a:YS):ZQ (Zn P [Za7,c_vAtL,Zal,ZaV] [vc1_lp a] true) 400 139 (.cons (.agg (UG false a)) .nil) = vCheck_T a:=by kernel_rfl
def VZ (a:YS):Int:=
  (bif bif Zp (ZfL a) a.n2 then true else false then (280:Int) else bif bif U5 (ZA (V.cons (V.int false .i64 a.f0) (V.cons (V.rsl false 2 a.n1 fun j=>
  Zr false (a.3 j)) V.nil))) != (0:Int) then true else false then (280:Int) else bif bif bif bif !Z0 (ZA (V.cons (V.int false .i64 a.f0) (V.cons (V.rsl
  false 2 a.n1 fun j=>Zr false (a.3 j)) V.nil))) (Int.ofNat (0:Nat))==Z6 a.n2 (fun j=>ZO (Zl false (a.5 j))) (1:Int) then true else false
  then true else false then true else bif bif bif !Z0 (ZA (V.cons (V.int false .i64 a.f0) (V.cons (V.rsl false 2 a.n1 fun j=>Zr false (a.3 j)) V.nil)))
  (Int.ofNat (nat_lit 0 + (1:Nat)))==Z6 a.n2 (fun j=>ZO (Zl false (a.5 j))) (Int.ofNat (nat_lit 1 + (1:Nat))) then true else false then true else
  false then true else bif bif bif !Z0 (ZA (V.cons (V.int false .i64 a.f0) (V.cons (V.rsl false 2 a.n1 fun j=>Zr false (a.3 j)) V.nil))) (Int.ofNat
  (nat_lit 1 + (1:Nat)))==Z6 a.n2 (fun j=>ZO (Zl false (a.5 j))) (Int.ofNat (nat_lit 2 + (1:Nat))) then true else false then true else false then
  true else bif bif bif !Z0 (ZA (V.cons (V.int false .i64 a.f0) (V.cons (V.rsl false 2 a.n1 fun j=>Zr false (a.3 j)) V.nil))) (Int.ofNat (nat_lit 2 + (1 :
  Nat)))==Z6 a.n2 (fun j=>ZO (Zl false (a.5 j))) (Int.ofNat (nat_lit 3 + (1:Nat))) then true else false then true else false then true else bif bif bif
  !Z0 (ZA (V.cons (V.int false .i64 a.f0) (V.cons (V.rsl false 2 a.n1 fun j=>Zr false (a.3 j)) V.nil))) (Int.ofNat (nat_lit 3 + (1:Nat)))==Z6 a.n2
  (fun j=>ZO (Zl false (a.5 j))) (Int.ofNat (nat_lit 4 + (1:Nat))) then true else false then true else false then true else bif bif bif !Z0 (ZA
  (V.cons (V.int false .i64 a.f0) (V.cons (V.rsl false 2 a.n1 fun j=>Zr false (a.3 j)) V.nil))) (Int.ofNat (nat_lit 4 + (1:Nat)))==Z6 a.n2 (fun j=>ZO
  (Zl false (a.5 j))) (Int.ofNat (nat_lit 5 + (1:Nat))) then true else false then true else false then true else bif bif bif !Z0 (ZA (V.cons (V.int false
  .i64 a.f0) (V.cons (V.rsl false 2 a.n1 fun j=>Zr false (a.3 j)) V.nil))) (Int.ofNat (nat_lit 5 + (1:Nat)))==Z6 a.n2 (fun j=>ZO (Zl false
  (a.5 j))) (Int.ofNat (nat_lit 6 + (1:Nat))) then true else false then true else false then true else bif bif bif !Z0 (ZA (V.cons (V.int false .i64 a.f0) (V.cons
  (V.rsl false 2 a.n1 fun j=>Zr false (a.3 j)) V.nil))) (Int.ofNat (nat_lit 6 + (1:Nat)))==Z6 a.n2 (fun j=>ZO (Zl false (a.5 j))) (Int.ofNat
  (nat_lit 7 + (1:Nat))) then true else false then true else false then true else bif bif bif !Z0 (ZA (V.cons (V.int false .i64 a.f0) (V.cons (V.rsl false 2 a.n1
  fun j=>Zr false (a.3 j)) V.nil))) (Int.ofNat (nat_lit 7 + (1:Nat)))==Z6 a.n2 (fun j=>ZO (Zl false (a.5 j))) (Int.ofNat (nat_lit 8 + (1 :
  Nat))) then true else false then true else false then true else bif bif bif !Z0 (ZA (V.cons (V.int false .i64 a.f0) (V.cons (V.rsl false 2 a.n1 fun j=>Zr
  false (a.3 j)) V.nil))) (Int.ofNat (nat_lit 8 + (1:Nat)))==Z6 a.n2 (fun j=>ZO (Zl false (a.5 j))) (Int.ofNat (nat_lit 9 + (1:Nat))) then true else
  false then true else false then true else bif bif bif !Z0 (ZA (V.cons (V.int false .i64 a.f0) (V.cons (V.rsl false 2 a.n1 fun j=>Zr false (a.3 j))
  V.nil))) (Int.ofNat (nat_lit 9 + (1:Nat)))==Z6 a.n2 (fun j=>ZO (Zl false (a.5 j))) (Int.ofNat (nat_lit 10 + (1:Nat))) then true else false then
  true else false then true else bif bif bif !Z0 (ZA (V.cons (V.int false .i64 a.f0) (V.cons (V.rsl false 2 a.n1 fun j=>Zr false (a.3 j)) V.nil)))
  (Int.ofNat (nat_lit 10 + (1:Nat)))==Z6 a.n2 (fun j=>ZO (Zl false (a.5 j))) (Int.ofNat (nat_lit 11 + (1:Nat))) then true else false then true else
  false then true else bif bif bif !Z0 (ZA (V.cons (V.int false .i64 a.f0) (V.cons (V.rsl false 2 a.n1 fun j=>Zr false (a.3 j)) V.nil))) (Int.ofNat
  (nat_lit 11 + (1:Nat)))==Z6 a.n2 (fun j=>ZO (Zl false (a.5 j))) (Int.ofNat (nat_lit 12 + (1:Nat))) then true else false then true else false then
  true else bif bif bif !Z0 (ZA (V.cons (V.int false .i64 a.f0) (V.cons (V.rsl false 2 a.n1 fun j=>Zr false (a.3 j)) V.nil))) (Int.ofNat (nat_lit 12 + (1 :
  Nat)))==Z6 a.n2 (fun j=>ZO (Zl false (a.5 j))) (Int.ofNat (nat_lit 13 + (1:Nat))) then true else false then true else false then true else bif bif
  bif !Z0 (ZA (V.cons (V.int false .i64 a.f0) (V.cons (V.rsl false 2 a.n1 fun j=>Zr false (a.3 j)) V.nil))) (Int.ofNat (nat_lit 13 + (1:Nat)))==Z6
  a.n2 (fun j=>ZO (Zl false (a.5 j))) (Int.ofNat (nat_lit 14 + (1:Nat))) then true else false then true else false then true else bif bif bif !Z0
  (ZA (V.cons (V.int false .i64 a.f0) (V.cons (V.rsl false 2 a.n1 fun j=>Zr false (a.3 j)) V.nil))) (Int.ofNat (nat_lit 14 + (1:Nat)))==Z6 a.n2 (fun j
  => ZO (Zl false (a.5 j))) (Int.ofNat (nat_lit 15 + (1:Nat))) then true else false then true else false then true else false then (280:Int) else (0:Int))
theorem ZkU (a:YS) (h0:a.n1<=1000) (h1:a.n2<=1000):Zi P 139 (.cons (.agg (UG false a)) .nil) (.int false IntKind.i64 (VZ a)):=
 YI (Zu hm hn (l:=[Za7,c_vAtL,Zal,ZaV]) ⟨Zg7,c_vAtL_ok,ZgP,Zie,trivial⟩ (ls:=[vc1_lp a]) ⟨vc1_lp_ok a h1,trivial⟩ true) 400 (Has.of hn Tryz.func139 rfl) (Zj1 a) (Tree.Pre.mk (by refine ⟨?_,⟨fun _=>trivial,fun _=>⟨?_,⟨fun _=>trivial,fun _=>⟨?_,⟨fun _=>trivial,fun _=>trivial⟩⟩⟩⟩⟩⟩; all_goals (first | exact vc1_fit a | (((repeat' (first | exact rfl | exact fun _=>⟨rfl,rfl⟩ | apply And.intro | intro _)); all_goals (try simp only [decide_eq_true_eq,decide_eq_false_iff_not] at *); all_goals omega))))) (by kernel_rfl) (by kernel_rfl)
def UC:Con:=Yf 139 (fun x=>(.cons (.agg (UG false (X0 x.hd.inner))) .nil)) (fun x=>(.int false IntKind.i64 (VZ (X0 x.hd.inner)))) (fun x=>(X0 x.hd.inner).n1<=1000/\(X0 x.hd.inner).n2<=1000)
theorem Zf7:UC.Ok P:=Yt (fun x h=>ZkU _ h.1 h.2)
end Go.Proofs.YtnjjailadijdlaaGreatDoor
namespace Go.Fw
def Tree.yes:Tree (V×List Blk)->Bool
 | .leaf y=>y.1.toBool
 | .node b t f=>bif b then t.yes else f.yes
 | .need _ t=>t.yes
 | _=>false
theorem Tree.yes_holds {P:Program} {bl:List Blk} {r:Bool} {Q:V×List Blk->Prop}:∀ T:Tree (V×List Blk),T.yes = r->T.pre->T.leaves (fun y=>y.1.sof = .bool false y.1.toBool/\y.2.map Blk.sof = bl.map Blk.sof)->Q (.bool false r,bl)->T.holds P fun x=>∃ x',Q x'/\x.1.sof = x'.1.sof/\x.2.map Blk.sof = x'.2.map Blk.sof:=by
 intro T
 induction T with
 | leaf y=>intro h _ hl hQ; exact ⟨_,hQ,by rw [hl.1]; exact congrArg (V.bool false) h,hl.2⟩
 | node b t f iht ihf=>
  intro h hp hl hQ
  refine ⟨fun hb=>iht ?_ (hp.1 hb) hl.1 hQ,fun hb=>ihf ?_ (hp.2 hb) hl.2 hQ⟩
  ·rw [<- h,hb]; rfl
  ·rw [<- h,hb]; rfl
 | need p t ih=>intro h hp hl hQ; exact ⟨hp.1,ih h hp.2 hl hQ⟩
 | _=>intro _ hp; exact hp.elim
theorem VO {E:Env} (hE:E.Ok) {k:Nat} {g:FuncId} {args:V} {bl bl2:List Blk} {T:Tree (V×List Blk)} (hT:evH E k g args bl = T) {r:Bool} (hr:T.yes = r) (hl:T.leaves (fun y=>y.1.sof = .bool false y.1.toBool/\y.2.map Blk.sof = bl2.map Blk.sof)) (hp:T.pre):Xb E.P g args bl (.leaf (.bool false r,bl2)):=
 hk_at hE k fun Q hQ=>by rw [hT]; exact Tree.yes_holds T hr hp hl hQ
end Go.Fw
namespace Go.Proofs.YtnjjailadijdlaaGreatDoor
open Go.Fw
def vParts_T (d:Zc):Tree (V×List Blk):=
 let q0:=(Zdr (Jj (V.cons (V.rsl false 2 d.a.n1 fun j=>V.soft._f (Yk false (d.a.r1 j)) ⟨⟨V.soft._f (vi (d.a.r1 j).f0) PUnit.unit,PUnit.unit⟩,V.soft._f (ci (d.a.r1 j).f1 V.nil) ⟨⟨V.soft._f (vi (d.a.r1 j).f1) PUnit.unit,PUnit.unit⟩,V.soft._f V.nil PUnit.unit,PUnit.unit⟩,⟨V.soft._f (vi (d.a.r1 j).f1) PUnit.unit,PUnit.unit⟩,V.soft._f V.nil PUnit.unit,PUnit.unit⟩) V.nil)))
 let q1:=(ZcF (Q5 (V.cons (V.rsl false 1 d.a.n2 fun j=>V.soft._f (V.cons (V.int false .u32 (d.a.r2 j).f0) V.nil) ⟨⟨V.soft._f (V.int false .u32 (d.a.r2 j).f0) PUnit.unit,PUnit.unit⟩,V.soft._f V.nil PUnit.unit,PUnit.unit⟩) V.nil)))
 let q2:=(V.cons (V.rsl false 4 d.a.n3 fun j=>Zm false (d.a.r3 j)) (V.cons (V.rsl false 4 d.a.n4 fun j=>Zk false (d.a.r4 j)) V.nil))
 let q3:=(ci d.a.f9 (V.cons (V.rsl false 2 d.a.n10 fun j=>Zr false (d.a.r10 j)) (V.cons (V.rsl false 3 d.a.n11 fun j=>Zl false (d.a.r11 j)) V.nil)))
 let q4:=(V.cons (V.rsl false 2 d.a.n5 fun j=>ZE false (d.a.r5 j)) V.nil)
 let q5:=(V.cons (V.rsl false 5 d.a.n8 fun j=>ZG false (d.a.r8 j)) V.nil)
 let q6:=(V.agg (V.cons (V.rsl false 1 d.a.n2 fun j=>V.cons (V.int false .u32 (d.a.r2 j).f0) V.nil) V.nil))
 let q7:=(V.agg (V.cons (V.rsl false 2 d.a.n1 fun j=>Yk false (d.a.r1 j)) V.nil))
 let q8:=(d.a.f13<=(4611686018427387904:Int))
 let q9:=(d.a.f0<=(1125899906842624:Int))
 Tree.need ((bif decide (d.a.f0 >= (0:Int)) then bif decide q9 then decide q8 else false else false) = true->(V.cons q7 V.nil = V.cons q7 V.nil/\d.a.n1<=(9:Nat))/\((V.toInt q0==(0:Int)) = true->(V.cons q6 V.nil = V.cons q6 V.nil/\d.a.n2<=(5:Nat))/\((V.toInt q1==(0:Int)) = true->V.cons (V.agg q2) V.nil = V.cons (V.agg q2) V.nil/\d.a.n3<=(1000:Nat)/\d.a.n4<=(1000:Nat)))) (Tree.need ((bif bif decide (d.a.f0 >= (0:Int)) then bif decide q9 then decide q8 else false else false then bif V.toInt q0==(0:Int) then bif V.toInt q1==(0:Int) then Wm (ZY q2)==(0:Int) else false else false else false) = true->(V.cons (V.agg q4) V.nil = V.cons (V.agg q4) V.nil/\d.a.n5<=(1000:Nat)/\∀ (j:Nat),(d.a.r5 j).n1<=(1000:Nat))/\((Vx (Vy q4)==(0:Int)) = true->(V.cons (V.agg q5) V.nil = V.cons (V.agg q5) V.nil/\d.a.n8<=(1000:Nat))/\((Uj (GU q5)==(0:Int)) = true->V.cons (V.agg q3) V.nil = V.cons (V.agg q3) V.nil/\d.a.n10<=(1000:Nat)/\d.a.n11<=(1000:Nat)))) (Tree.leaf (V.bool false (bif bif bif decide (d.a.f0 >= (0:Int)) then bif decide q9 then decide q8 else false else false then bif V.toInt q0==(0:Int) then bif V.toInt q1==(0:Int) then Wm (ZY q2)==(0:Int) else false else false else false then bif Vx (Vy q4)==(0:Int) then bif Uj (GU q5)==(0:Int) then VZ (X0 q3)==(0:Int) else false else false else false),[Blk.var (ZM d.a),Blk.Ze (MK.int .i64) false (fun k=>(d.2 (Za k),vi (d.3 (Za k)))) none,Blk.Ze (MK.int .i64) false (fun k=>(d.4 (Za k),vi (d.5 (Za k)))) none,Blk.Ze (MK.int .i64) false (fun k=>(d.6 (Za k),vi (d.7 (Za k)))) none])))
theorem ZiL (d:Zc):evH (Zn P [WM,Qd,JR,ZdY,Zd4,UC] [] true) 400 62 (.cons (.ptr true 0 0 0 0) .nil) (ZV d) = vParts_T d:=by kernel_rfl
def VX (d:Zc):Bool:=
  (bif bif bif decide (d.a.f0 >= (0:Int)) then bif decide (d.a.f0<=(1125899906842624:Int)) then decide (d.a.f13<=(4611686018427387904:Int)) else false else false then bif
  V.toInt (Zdr (Jj (V.cons (V.rsl false 2 d.a.n1 fun j=>V.soft._f (Yk false (d.a.r1 j)) ⟨⟨V.soft._f (V.int false .i64 (d.a.r1 j).f0) PUnit.unit,PUnit.unit⟩,
  V.soft._f (V.cons (V.int false .i64 (d.a.r1 j).f1) V.nil) ⟨⟨V.soft._f (V.int false .i64 (d.a.r1 j).f1) PUnit.unit,PUnit.unit⟩,V.soft._f V.nil PUnit.unit,PUnit.unit⟩,
  ⟨V.soft._f (V.int false .i64 (d.a.r1 j).f1) PUnit.unit,PUnit.unit⟩,V.soft._f V.nil PUnit.unit,PUnit.unit⟩) V.nil)))==(0:Int) then bif V.toInt (ZcF (Q5
  (V.cons (V.rsl false 1 d.a.n2 fun j=>V.soft._f (V.cons (V.int false .u32 (d.a.r2 j).f0) V.nil) ⟨⟨V.soft._f (V.int false .u32 (d.a.r2 j).f0) PUnit.unit,PUnit.unit⟩,V.soft._f
  V.nil PUnit.unit,PUnit.unit⟩) V.nil)))==(0:Int) then Wm (ZY (V.cons (V.rsl false 4 d.a.n3 fun j=>Zm false (d.a.r3 j)) (V.cons (V.rsl false 4
  d.a.n4 fun j=>Zk false (d.a.r4 j)) V.nil)))==(0:Int) else false else false else false then bif Vx (Vy (V.cons (V.rsl false 2 d.a.n5 fun j=>
  ZE false (d.a.r5 j)) V.nil))==(0:Int) then bif Uj (GU (V.cons (V.rsl false 5 d.a.n8 fun j=>ZG false (d.a.r8 j)) V.nil))==(0:Int) then
  VZ (X0 (V.cons (V.int false .i64 d.a.f9) (V.cons (V.rsl false 2 d.a.n10 fun j=>Zr false (d.a.r10 j)) (V.cons (V.rsl false 3 d.a.n11 fun j=>
  Zl false (d.a.r11 j)) V.nil))))==(0:Int) else false else false else false)
theorem vParts_at (d:Zc) (h0:d.a.n1<=9) (h1:d.a.n2<=5) (h2:d.a.n3<=1000) (h3:d.a.n4<=1000) (h4:d.a.n5<=1000) (h5:d.a.n8<=1000) (h6:d.a.n10<=1000) (h7:d.a.n11<=1000) (h8:∀ j,(d.a.r5 j).n1<=1000):Xb P 62 (.cons (.ptr true 0 0 0 0) .nil) (ZV d) (.leaf (.bool false (VX d),ZV d)):=by
 refine VO (E:=(Zn P [WM,Qd,JR,ZdY,Zd4,UC] [] true)) (Zu hm hn (l:=[WM,Qd,JR,ZdY,Zd4,UC]) ⟨Zhn,Ziu,Zdu,ZjJ,Zlb,Zf7,trivial⟩ (ls:=[]) trivial true) (ZiL d) (rfl) ⟨rfl,rfl⟩ ?_
 refine ⟨?_,⟨?_,trivial⟩⟩
 all_goals ((repeat' (first | exact rfl | exact fun _=>⟨rfl,rfl⟩ | apply And.intro | intro _)); all_goals (try simp only [decide_eq_true_eq,decide_eq_false_iff_not] at *); all_goals (first | omega | exact h8 | exact h8 _))
def Gs:HK:=fun args bl=>match args,bl with
 | (.cons (.ptr true 0 0 0 0) .nil),[.var c,.Ze (.int .i64) _ fo _,.Ze (.int .i64) _ fn _,.Ze (.int .i64) _ fh _]=>some (c.WT fun c=>.need (KP c fo fn fh/\(fun (d:Zc)=>d.a.n1<=9) (ZF c fo fn fh)/\(fun (d:Zc)=>d.a.n2<=5) (ZF c fo fn fh)/\(fun (d:Zc)=>d.a.n3<=1000) (ZF c fo fn fh)/\(fun (d:Zc)=>d.a.n4<=1000) (ZF c fo fn fh)/\(fun (d:Zc)=>d.a.n5<=1000) (ZF c fo fn fh)/\(fun (d:Zc)=>d.a.n8<=1000) (ZF c fo fn fh)/\(fun (d:Zc)=>d.a.n10<=1000) (ZF c fo fn fh)/\(fun (d:Zc)=>d.a.n11<=1000) (ZF c fo fn fh)/\(fun (d:Zc)=>∀ j,(d.a.r5 j).n1<=1000) (ZF c fo fn fh)) (.leaf (.bool false (VX (ZF c fo fn fh)),ZV (ZF c fo fn fh))))
 | _,_=>none
theorem vParts_ok:Xj P 62 Gs:=by
 intro args bl T hT
 unfold Gs at hT
 split at hT
 ·rename_i c q1 fo q2 q3 fn q4 q5 fh q6
  injection hT with hT
  subst hT
  intro base mm F w xs Q KK h1 h2 hq hk
  simp only [V.Qw] at hq
  obtain ⟨hp,hq⟩:=hq
  exact Xb.le (bl:=[.var c,.Ze (.int .i64) q1 fo q2,.Ze (.int .i64) q3 fn q4,.Ze (.int .i64) q5 fh q6]) (vParts_at (ZF c fo fn fh) hp.2.1 hp.2.2.1 hp.2.2.2.1 hp.2.2.2.2.1 hp.2.2.2.2.2.1 hp.2.2.2.2.2.2.1 hp.2.2.2.2.2.2.2.1 hp.2.2.2.2.2.2.2.2.1 hp.2.2.2.2.2.2.2.2.2) rfl (fun b=>Vr hp.1 b) base mm F w xs Q KK h1 h2 hq hk
 ·cases hT
def ZdO (a:K6):V:=(ZJ (Zo P [Qd] []) (ZL [Qd]) 400 158 (.cons (.agg (X3 true a)) .nil)).join
theorem pCpus_p0 (a:K6):(YH 6 fun c=>(ZJ (Zo P [Qd] []) (ZL [Qd]) 400 158 (.cons (.agg (X3 true { a with n0:=(0 + c) })) .nil)).total&&((ZJ (Zo P [Qd] []) (ZL [Qd]) 400 158 (.cons (.agg (X3 true { a with n0:=(0 + c) })) .nil)).Yu&&Y3 (.int false .u32 0) (ZJ (Zo P [Qd] []) (ZL [Qd]) 400 158 (.cons (.agg (X3 true { a with n0:=(0 + c) })) .nil)).join)) = true:=by kernel_rfl
theorem Zll (a:K6) (h0:a.n0<=5):Zi P 158 (.cons (.agg (X3 true a)) .nil) (Ye (.int false .u32 0) (ZdO a)):=by
 have key:∀ c,c < 6->Zi P 158 (.cons (.agg (X3 true { a with n0:=c })) .nil) (Ye (.int false .u32 0) (ZJ (Zo P [Qd] []) (ZL [Qd]) 400 158 (.cons (.agg (X3 true { a with n0:=c })) .nil)).join):=fun c hc=>by
  exact Je 0 6 Y1 (Yh hm hn (l:=[Qd]) ⟨Ziu,trivial⟩) rfl 400 (.int false .u32 0) (args:=fun c=>(.cons (.agg (X3 true { a with n0:=c })) .nil)) (Has.of hn Tryz.func158 rfl) (pCpus_p0 a) (by omega) (by omega)
 have hc:=key (a.n0) (by omega)
 exact hc
def Gw:Con:=XT 158 (.cons (.agg ZgF) .nil) (fun x=>Nat.ble (Q5 x.hd.inner).n0 5) (fun x=>Ye (.int false .u32 0) (ZdO (Q5 x.hd.inner))) (fun x=>(.cons (.agg (X3 true (Q5 x.hd.inner))) .nil)) (fun x=>(Q5 x.hd.inner).n0<=5)
theorem Zhx:Gw.Ok P:=WQ (fun _=>rfl) (fun x h=>by simp only [Bool.and_eq_true,Nat.ble_eq] at h ⊢; omega) (fun x h=>Zll _ h)
def Zdw (a:Vh):V:=(ZJ (Zo P [WM] []) (ZL [WM]) 400 159 (.cons (.agg (XY true a)) .nil)).join
theorem tAll_p0 (a:Vh):(YH 10 fun c=>(ZJ (Zo P [WM] []) (ZL [WM]) 400 159 (.cons (.agg (XY true { a with n0:=(0 + c) })) .nil)).total&&((ZJ (Zo P [WM] []) (ZL [WM]) 400 159 (.cons (.agg (XY true { a with n0:=(0 + c) })) .nil)).Yu&&Y3 (.int false .u32 0) (ZJ (Zo P [WM] []) (ZL [WM]) 400 159 (.cons (.agg (XY true { a with n0:=(0 + c) })) .nil)).join)) = true:=by kernel_rfl
theorem ZjK (a:Vh) (h0:a.n0<=9):Zi P 159 (.cons (.agg (XY true a)) .nil) (Ye (.int false .u32 0) (Zdw a)):=by
 have key:∀ c,c < 10->Zi P 159 (.cons (.agg (XY true { a with n0:=c })) .nil) (Ye (.int false .u32 0) (ZJ (Zo P [WM] []) (ZL [WM]) 400 159 (.cons (.agg (XY true { a with n0:=c })) .nil)).join):=fun c hc=>by
  exact Je 0 10 Y1 (Yh hm hn (l:=[WM]) ⟨Zhn,trivial⟩) rfl 400 (.int false .u32 0) (args:=fun c=>(.cons (.agg (XY true { a with n0:=c })) .nil)) (Has.of hn Tryz.func159 rfl) (tAll_p0 a) (by omega) (by omega)
 have hc:=key (a.n0) (by omega)
 exact hc
def Gp:Con:=XT 159 (.cons (.agg Zij) .nil) (fun x=>Nat.ble (Jj x.hd.inner).n0 9) (fun x=>Ye (.int false .u32 0) (Zdw (Jj x.hd.inner))) (fun x=>(.cons (.agg (XY true (Jj x.hd.inner))) .nil)) (fun x=>(Jj x.hd.inner).n0<=9)
theorem Zgd:Gp.Ok P:=WQ (fun _=>rfl) (fun x h=>by simp only [Bool.and_eq_true,Nat.ble_eq] at h ⊢; omega) (fun x h=>ZjK _ h)
abbrev Za9 (d:Zc) (i:Int) (z:Unit):V:=(.cons (.ptr true 4 0 0 0) (.cons (.bool true false) (.cons (.rsl false 4 (Zb.n3 (Zc.a d)) (fun j=>Zm false ((Zc.a d).r3 j))) (.cons (.int false .i64 (((Zb.n3 (Zc.a d)):Nat):Int)) (.cons (.int false .i64 i) .nil)))))
abbrev ZaT (d:Zc) (i:Int) (z:Unit):List Blk:=[.var (ZM d.a),mO d,mN d,mH d,.var (.cons (.ptr true 0 0 0 0) .nil)]
def gr1_R (d:Zc) (i:Int) (z:Unit):Tree Rd:=
 let q2:=(V.rsl false 4 d.a.n3 fun jj=>Zm false (d.a.r3 jj))
 let q1:=[Blk.var (ZM d.a),mO d,mN d,mH d,Blk.var (V.cons (pt 0) V.nil)]
 let q0:=(Tree.leaf (Ex.ret,true,V.cons (pt 4) (V.cons (V.bool true false) (V.cons q2 (ci ((d.a.n3:Nat):Int) (ci i V.nil)))),q1))
 Tree.need ((0:Int)<=i/\i < ((d.a.n3:Nat):Int)) (Tree.node (decide ((d.a.r3 (Int.toNat i)).f3 >= ((d.a.n2:Nat):Int))) q0 (Tree.need ((0:Int)<=i/\i < ((d.a.n7:Nat):Int)) (Tree.node ((bif bif bif bif bif bif bif decide ((d.a.r7 (Int.toNat i)).f0 < (0:Int)) then true else decide ((d.a.r7 (Int.toNat i)).f0 > (800:Int)) then true else false then true else false then true else false then true else bif bif bif bif bif decide ((d.a.r7 (Int.toNat i)).f1 < (-8000000000:Int)) then true else decide ((d.a.r7 (Int.toNat i)).f1 > IntKind.wrap .i64 ((d.a.r7 (Int.toNat i)).f0 * (100000000:Int))) then true else false then true else false then true else false then true else bif (d.a.r7 (Int.toNat i)).f0==(0:Int) then !((d.a.r7 (Int.toNat i)).f0==(0:Int)&&((d.a.r7 (Int.toNat i)).f1==(0:Int)&&true)) else false then true else false then (210:Int) else (0:Int)) != (0:Int)) q0 (Tree.need ((0:Int)<=i/\i < ((d.a.n7:Nat):Int)) (Tree.node (bif (d.a.r7 (Int.toNat i)).f0 != (d.a.r3 (Int.toNat i)).f2 then true else false) q0 (Tree.leaf (Ex.normal,true,V.cons (pt 4) (V.cons (V.bool true false) (V.cons q2 (ci ((d.a.n3:Nat):Int) (ci (IntKind.wrap .i64 (i + (1:Int))) V.nil)))),q1)))))))
theorem gr1_round (d:Zc):Yp P (Zn P [Gw,Gp,Gm] [] true) 63 4 34 34 92 [1,2,39,40,41] [(0,.own),(1,.own),(2,.own),(3,.own),(4,.own)] [] (Za9 d) (ZaT d) (fun i=>(bif decide (i < ((d.a.n3:Nat):Int)) then false else true)) (.exit 0) (gr1_R d):=fun B i z=>by kernel_rfl
def Jt (d:Zc) (k:Nat):Bool:=(fun (i:Int) (z:Unit)=>(bif decide ((d.a.r3 (Int.toNat i)).f3 >= ((d.a.n2:Nat):Int)) then true else (bif (bif bif bif bif bif bif bif decide ((d.a.r7 (Int.toNat i)).f0 < (0:Int)) then true else decide ((d.a.r7 (Int.toNat i)).f0 > (800:Int)) then true else false then true else false then true else false then true else bif bif bif bif bif decide ((d.a.r7 (Int.toNat i)).f1 < (-8000000000:Int)) then true else decide ((d.a.r7 (Int.toNat i)).f1 > IntKind.wrap .i64 ((d.a.r7 (Int.toNat i)).f0 * (100000000:Int))) then true else false then true else false then true else false then true else bif (d.a.r7 (Int.toNat i)).f0==(0:Int) then !((d.a.r7 (Int.toNat i)).f0==(0:Int)&&((d.a.r7 (Int.toNat i)).f1==(0:Int)&&true)) else false then true else false then (210:Int) else (0:Int)) != (0:Int) then true else (bif bif (d.a.r7 (Int.toNat i)).f0 != (d.a.r3 (Int.toNat i)).f2 then true else false then true else false)))) k ()
abbrev gr1_ets (d:Zc) (i:Int) (z:Unit):V:=(.cons (V.ptr true 4 0 0 0) (.cons (V.bool true false) (.cons (V.rsl false 4 d.a.n3 fun jj=>Zm false (d.a.r3 jj)) (.cons (V.int false .i64 ((d.a.n3:Nat):Int)) (.cons .junk .nil)))))
def ZcI (d:Zc):Lp:=lpL 63 4 34 34 92 [1,2,39,40,41] [(0,.own),(1,.own),(2,.own),(3,.own),(4,.own)] [] (Za9 d) (ZaT d) (.exit 0) .ret () (fun _=>()) (Jt d) (Zb.n3 (Zc.a d)) (gr1_ets d) (ZaT d)
def gr1_need (d:Zc):Prop:=YP 34 [] (Za9 d) (ZaT d) () (Za9 d (0:Nat) ()) (ZaT d (0:Nat) ())
theorem gr1_fit (d:Zc):gr1_need d:=⟨rfl,⟨rfl,⟨rfl,fun _=>⟨rfl,rfl⟩⟩,⟨rfl,fun _=>⟨rfl,rfl⟩⟩,⟨rfl,fun _=>⟨rfl,rfl⟩⟩,rfl,trivial⟩⟩
theorem gr1_lp_ok (d:Zc) (hl:d.a.n3<=1000) (h1:d.a.n1<=9) (h2:d.a.n2<=5) (hb:d.a.n7 = d.a.n3):(ZcI d).Ok P:=by
 refine Y4 (Zu hm hn (l:=[Gw,Gp,Gm]) ⟨Zhx,Zgd,Zir,trivial⟩ (ls:=[]) trivial true) rfl (by kernel_rfl) (gr1_round d) exN YB (fun _=>rfl) (step:=fun _ z=>z) (rd:=(fun _ t y=>())) (fun i z=>rfl) (fun i=>(cC rfl (cC rfl (cC rfl rfl)))) rfl (fun i hlt hg=>?_) (fun i z hi=>?_)
 ·have hltI:(i:Int) < (((Zb.n3 (Zc.a d)):Nat):Int):=by omega
  refine ⟨?_,⟨fun hb0=>trivial,fun hb0=>⟨?_,⟨fun hb1=>trivial,fun hb1=>⟨?_,⟨fun hb2=>trivial,fun hb2=>trivial⟩⟩⟩⟩⟩⟩
  all_goals (repeat' (first | exact rfl | exact fun _=>⟨rfl,rfl⟩ | apply And.intro | intro _))
  all_goals (try simp only [decide_eq_true_eq,decide_eq_false_iff_not,Bool.not_eq_true',Bool.not_eq_false'] at *)
  all_goals (try simp (disch:=omega) only [IntWalk.i64_in])
  all_goals (first | omega)
 ·have hw:=(IntWalk.i64_in ((i:Int) + 1) ⟨by omega,by omega⟩)
  refine ⟨?_,⟨?_,⟨?_,?_⟩⟩⟩
  all_goals (first | exact ⟨rfl,YD (ts:=Za9 d) (a:=()) hw rfl,Z7 _⟩ | exact ⟨rfl,rfl,(by repeat' (first | exact Le.refl _ | exact Le.junk _ rfl | apply Le.cons)),Z7 _⟩)
end Go.Proofs.YtnjjailadijdlaaGreatDoor
end
