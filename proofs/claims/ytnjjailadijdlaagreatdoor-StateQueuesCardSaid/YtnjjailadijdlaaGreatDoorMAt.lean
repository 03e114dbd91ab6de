/- domain.count: its loop -/
import Derived.Test.YtnjjailadijdlaaGreatDoorMAr
import Derived.Test.YtnjjailadijdlaaGreatDoorMAm
import Derived.Test.YtnjjailadijdlaaGreatDoorMAo
import Derived.Test.YtnjjailadijdlaaGreatDoorMAs
set_option maxRecDepth 100000
set_option linter.unusedVariables false
set_option linter.unusedSimpArgs false
noncomputable section
namespace Go.Proofs.YtnjjailadijdlaaGreatDoor
open Go.Fw
abbrev ZbJ (d:Zf) (b:Int) (i:Int) (z:Int):V:=(.cons (.int false .i64 b) (.cons (.int false .i64 (z)) (.cons (.rsl false 4 d.n1 (fun j=>Zk false (d.r1 j))) (.cons (.int false .i64 ((d.n1:Nat):Int)) (.cons (.int false .i64 i) .nil)))))
abbrev Zd6 (d:Zf) (b:Int) (i:Int) (z:Int):List Blk:=[]
def dcn_R (d:Zf) (b:Int) (i:Int) (z:Int):Tree Rd:=
 Tree.need ((0:Int)<=i/\i < ((d.n1:Nat):Int)) (Tree.leaf (Ex.normal,true,ci b (ci (bif (d.r1 (Int.toNat i)).f1==b then IntKind.wrap .i64 (z + (1:Int)) else z) (V.cons (V.rsl false 4 d.n1 fun jj=>Zk false (d.r1 jj)) (ci ((d.n1:Nat):Int) (ci (IntKind.wrap .i64 (i + (1:Int))) V.nil)))),[]))
theorem dcn_round (d:Zf) (b:Int):Yp P (Zn P [] [] true) 243 3 1 1 23 [1,5,9,10,11] [] [] (ZbJ d b) (Zd6 d b) (fun i=>(bif decide (i < ((d.n1:Nat):Int)) then false else true)) (.exit 0) (dcn_R d b):=fun B i z=>by kernel_rfl
def dcn_step (d:Zf) (b:Int) (k:Nat) (z:Int):Int:=(dcn_R d b k z).carry ((fun t y=>(t.nth 1).toInt)) z
def Zfi (d:Zf) (b:Int) (k:Nat):Int:=ZI 0 (dcn_step d b) k
def dcn_lp (d:Zf) (b:Int):Lp:=lpL0 243 3 1 1 23 [1,5,9,10,11] [] [] (ZbJ d b) (Zd6 d b) (.exit 0) 0 (Zfi d b) (d.n1)
def Zg0 (d:Zf) (b:Int):Prop:=YP 1 [] (ZbJ d b) (Zd6 d b) 0 (ZbJ d b (0:Nat) 0) (Zd6 d b (0:Nat) 0)
theorem dcn_fit (d:Zf) (b:Int):Zg0 d b:=⟨rfl,trivial⟩
theorem dcn_lp_ok (d:Zf) (b:Int) (hl:d.n1<=1000):(dcn_lp d b).Ok P:=by
 refine Vm (Zu hm hn (l:=[]) trivial (ls:=[]) trivial true) rfl (by kernel_rfl) (dcn_round d b) exN YB (fun _=>rfl) (rd:=(fun _ t y=>(t.nth 1).toInt)) (fun i z=>rfl) (fun i=>rfl) rfl (fun i hlt hg=>?_) (fun i z hi=>?_)
 ·have hltI:(i:Int) < ((d.n1:Nat):Int):=by omega
  refine ⟨?_,trivial⟩
  all_goals (repeat' (first | exact rfl | exact fun _=>⟨rfl,rfl⟩ | apply And.intro | intro _))
  all_goals (try simp only [decide_eq_true_eq,decide_eq_false_iff_not,Bool.not_eq_true',Bool.not_eq_false'] at *)
  all_goals (try simp (disch:=omega) only [IntWalk.i64_in])
  all_goals (first | omega)
 ·have hw:=(IntWalk.i64_in ((i:Int) + 1) ⟨by omega,by omega⟩)
  all_goals exact ⟨rfl,YD (ts:=ZbJ d b) hw rfl,Z7 _⟩
def dCountL_T (a:Zf) (b:Int):Tree V:=
 Tree.need (Zg0 a b) (Tree.leaf (vi (Zfi a b a.n1)))
theorem Zk2 (a:Zf) (b:Int):ZQ (Zn P [] [dcn_lp a b] true) 400 243 (.cons (.agg (Qi false a)) (.cons (.int false .i64 b) .nil)) = dCountL_T a b:=by kernel_rfl
def ZdL (a:Zf) (b:Int):Int:=
  (Zfi a b a.n1)
theorem Zmn (a:Zf) (b:Int) (h0:a.n1<=1000):Zi P 243 (.cons (.agg (Qi false a)) (.cons (.int false .i64 b) .nil)) (.int false IntKind.i64 (ZdL a b)):=
 YI (Zu hm hn (l:=[]) trivial (ls:=[dcn_lp a b]) ⟨dcn_lp_ok a b h0,trivial⟩ true) 400 (Has.of hn Tryz.func243 rfl) (Zk2 a b) (Tree.Pre.mk (by refine ⟨?_,trivial⟩; all_goals (first | exact dcn_fit a b | (repeat' (first | exact rfl | apply And.intro))))) (by kernel_rfl) (by kernel_rfl)
def VL:Con:=Yf 243 (fun x=>(.cons (.agg (Qi false (ZY x.hd.inner))) (.cons (.int false .i64 x.tl.hd.toInt) .nil))) (fun x=>(.int false IntKind.i64 (ZdL (ZY x.hd.inner) x.tl.hd.toInt))) (fun x=>(ZY x.hd.inner).n1<=1000)
theorem Zfy:VL.Ok P:=Yt (fun x h=>Zmn _ _ h)
def cmpI_T (a:Int) (b:Int):Tree V:=
 Tree.node (bif a != a then bif bif b != b then true else false then true else true else false) (Tree.leaf (vi (bif bif b != b then true else false then (0:Int) else (-1:Int)))) (Tree.node (bif b != b then true else false) (Tree.leaf (V.int true .i64 (1:Int))) (Tree.node (bif decide (a < b) then true else false) (Tree.leaf (V.int true .i64 (-1:Int))) (Tree.node (bif decide (a > b) then true else false) (Tree.leaf (V.int true .i64 (1:Int))) (Tree.leaf (V.int true .i64 (0:Int))))))
theorem cmpI_tree (a:Int) (b:Int):ZQ (Zn P [] [] true) 400 295 (.cons (.int false .i64 a) (.cons (.int false .i64 b) .nil)) = cmpI_T a b:=by kernel_rfl
def X6 (a:Int) (b:Int):Int:=
  (bif bif a != a then bif bif b != b then true else false then true else true else false then bif bif b != b then true else false then (0:Int) else (-1:Int) else bif bif b
  != b then true else false then (1:Int) else bif bif decide (a < b) then true else false then (-1:Int) else bif bif decide (a > b) then true else false then (1:Int) else
  (0:Int))
theorem Zmq (a:Int) (b:Int)  : Zi P 295 (.cons (.int false .i64 a) (.cons (.int false .i64 b) .nil)) (.int false IntKind.i64 (X6 a b)):=
 YI (Zu hm hn (l:=[]) trivial (ls:=[]) trivial true) 400 (Has.of hn Tryz.func295 rfl) (cmpI_tree a b) (Tree.Pre.mk (And.intro (fun _=>True.intro) (fun _=>(And.intro (fun _=>True.intro) (fun _=>(And.intro (fun _=>True.intro) (fun _=>(And.intro (fun _=>True.intro) (fun _=>True.intro))))))))) (by kernel_rfl) (by kernel_rfl)
def Qs:Con:=XT 295 (.cons (.int false .i64 0) (.cons (.int false .i64 0) .nil)) (fun x=>true) (fun x=>(.int false IntKind.i64 (X6 x.hd.toInt x.tl.hd.toInt))) (fun x=>(.cons (.int false .i64 x.hd.toInt) (.cons (.int false .i64 x.tl.hd.toInt) .nil))) (fun x=>True)
theorem UR:Qs.Ok P:=WQ (fun _=>rfl) (fun x h=>True.intro) (fun x h=>Zmq _ _)
abbrev Zcm (n:Nat) (r:Nat->Yo) (x:Int) (i j:Int):V:=(.cons (.rsl false 4 n (fun j=>Zm false (r j))) (.cons (.int false .i64 x) (.cons (.fn (.func 294) .nil (.cons (.ptr true 0 0 0 0) .nil)) (.cons (.int true .i64 0) (.cons (.bool true false) (.cons (.int false .i64 ((n:Nat):Int)) (.cons (.int false .i64 i) (.cons (.int false .i64 j) .nil))))))))
abbrev Zb9 (n:Nat) (r:Nat->Yo) (x:Int):List Blk:=[.var (.cons (.fn (.func 240) .nil .nil) .nil)]
def bPlD_T (n:Nat) (r:Nat->Yo) (x:Int) (i j:Int):Tree (Ex×Bool×V×List Blk):=
 let q0:=V.rsl false 4 n fun j=>Zm false (r j)
 let q8:=V.fn (Fn.func (294:FuncId)) V.nil (V.cons (pt 0) V.nil)
 let q9:=[Blk.var (V.cons (V.fn (Fn.func (240:FuncId)) V.nil V.nil) V.nil)]
 let q10:=vi (n:Int)
 let q11:=V.int true .i64 (0:Int)
 let q12:=vi x
 Tree.node (decide (i < j)) (Tree.need ((0:Int)<=half i j/\half i j < (n:Int)) (Tree.node (decide (X6 (r (Int.toNat (half i j))).f0 x < (0:Int))) (Tree.leaf (Ex.normal,true,V.cons q0 (V.cons q12 (V.cons q8 (V.cons q11 (V.cons (V.bool true false) (V.cons q10 (ci (IntKind.wrap .i64 (half i j + (1:Int))) (ci j V.nil))))))),q9)) (Tree.leaf (Ex.normal,true,V.cons q0 (V.cons q12 (V.cons q8 (V.cons q11 (V.cons (V.bool true false) (V.cons q10 (ci i (ci (half i j) V.nil))))))),q9)))) (Tree.leaf (Ex.exit 0,true,V.cons q0 (V.cons q12 (V.cons q8 (V.cons q11 (V.cons (V.bool true false) (V.cons q10 (ci i (ci j V.nil))))))),q9))
theorem Zlg (B:Base) (n:Nat) (r:Nat->Yo) (x:Int) (i j:Int):((ev (Zo P [Qs] [293]) 400 293 (Qu P 293 3) B (Yg 1 49 [0,1,2,6,7,8,9,10] [(0,.own)] (Zcm n r x i j) (Zb9 n r x))).bind fun x=>Tree.leaf (x.1,vwN 1 1 49 [0,1,2,6,7,8,9,10] [(0,.own)] x.2)) = bPlD_T n r x i j:=by kernel_rfl
def Zcf (n:Nat) (r:Nat->Yo) (x:Int) (k:Nat):Bool:=(fun (h:Int)=>decide (X6 (Yo.f0 (r (Int.toNat (h)))) x < (0:Int))) k
def QJ (n:Nat) (r:Nat->Yo) (x:Int):Nat:=Xt (Zcf n r x) n 0 n
def ZdW (n:Nat) (r:Nat->Yo) (x:Int):Lp:=⟨293,3,fun _ s=>match vwN 1 1 49 [0,1,2,6,7,8,9,10] [(0,.own)] s with
 | (true,(.cons (.rsl _ 4 nt0 ft0) (.cons (.int _ .i64 tx) (.cons (.fn (.func 294) .nil (.cons (.ptr true 0 0 0 0) .nil)) (.cons (.int _ .i64 t3) (.cons (.bool _ t4) (.cons (.int _ .i64 t5) (.cons (.int _ .i64 t6) (.cons (.int _ .i64 t7) .nil)))))))),[.var (.cons (.fn (.func 240) .nil .nil) .nil)])=>bif Nat.beq s.n 1 then .need (n = nt0/\(fun j=>Zm false (r j)) = ft0/\x = tx/\0 = t3/\false = t4/\((n:Nat):Int) = t5/\0 = t6/\((n:Nat):Int) = t7)
   (.leaf (.exit 0,Yg 1 49 [0,1,2,6,7,8,9,10] [(0,.own)] (Zcm n r x ((QJ n r x:Nat):Int) ((QJ n r x:Nat):Int)) (Zb9 n r x))) else .stuck
 | _=>.stuck⟩
theorem Zi6 (n:Nat) (r:Nat->Yo) (x:Int) (hl:n<=1000):(ZdW n r x).Ok P:=by
 refine KM (by kernel_rfl) fun hin B s Q hq=>?_
 simp only [ZdW] at hq hin ⊢
 split at hq
 ·rename_i q1 nt0 ft0 q2 tx q3 t3 q4 t4 q5 t5 q6 t6 q7 t7 heq
  cases hsn:Nat.beq s.n 1
  ·rw [hsn] at hq; exact hq.elim
  ·rw [hsn] at hq
   obtain ⟨⟨rfl,rfl,rfl,rfl,rfl,rfl,rfl,rfl⟩,hq⟩:=hq
   have hsame:WE 1 1 49 [0,1,2,6,7,8,9,10] [(0,.own)] s (Zcm n r x 0 ((n:Nat):Int)) (Zb9 n r x):=by
    refine ⟨by rw [heq],by rw [heq]; exact Le.soft rfl,by rw [heq]; exact ⟨LeK.var (Le.soft rfl),trivial⟩⟩
   refine Za5 (k:=400) (f:=293) (Yh hm hn (l:=[Qs]) ⟨UR,trivial⟩) rfl hin (Zcf n r x) n (fun i j=>Zcm n r x i j) (Zb9 n r x) Q (fun i j=>Zlg B n r x i j) (fun i j hij hjn=>?_) hq (Nat.eq_of_beq_eq_true hsn) hsame
   refine ⟨fun hc=>?_,fun hc=>?_⟩
   ·have hlt:i < j:=by have:=of_decide_eq_true hc; omega
    have hh:=ZbH (i:=i) (j:=j) (by omega)
    refine ⟨by rw [hh]; omega,fun hb=>?_,fun hb=>?_⟩
    ·rw [hh] at hb ⊢
     rw [IntWalk.i64_in ((((i + j) / 2:Nat):Int) + 1) ⟨by omega,by omega⟩]
     exact ⟨rfl,hlt,⟨LeK.refl _,trivial⟩,fun _=>Le.soft rfl,fun hl=>Bool.noConfusion ((show Zcf n r x ((i + j) / 2) = true from hb).symm.trans hl)⟩
    ·rw [hh] at hb ⊢
     exact ⟨rfl,hlt,⟨LeK.refl _,trivial⟩,fun hl=>Bool.noConfusion ((show Zcf n r x ((i + j) / 2) = false from hb).symm.trans hl),fun _=>Le.soft rfl⟩
   ·have hge:¬ (i:Int) < (j:Int):=fun h=>by rw [decide_eq_true h] at hc; cases hc
    have e:i = j:=by omega
    subst e
    exact ⟨rfl,rfl,⟨LeK.refl _,trivial⟩,Le.soft rfl,rfl⟩
 ·exact hq.elim
def dPlD_T (an:Nat) (a:Nat->Yo) (b:Int):Tree V:=
 let q0:=((QJ an a b:Nat):Int)
 Tree.need (an = an/\((fun j=>Zm false (a j)) = fun j=>Zm false (a j))/\b = b/\(0:Int) = (0:Int)/\false = false/\(an:Int) = (an:Int)/\(0:Int) = (0:Int)/\(an:Int) = (an:Int)) (Tree.need (decide (q0 < (an:Int)) = true->(0:Int)<=q0/\q0 < (an:Int)) (Tree.leaf (V.tup (ci (bif decide (q0 < (an:Int)) then q0 else q0) (V.cons (V.bool false (bif decide (q0 < (an:Int)) then X6 (a (Int.toNat q0)).f0 b==(0:Int) else false)) V.nil)))))
theorem dPlD_tree (an:Nat) (a:Nat->Yo) (b:Int):ZQ (Zn P [Qs] [ZdW an a b] true) 400 244 (.cons (.rsl false 4 an fun j=>Zm false (a j)) (.cons (.int false .i64 b) (.cons (.fn (.func 240) .nil .nil) .nil))) = dPlD_T an a b:=by kernel_rfl
def VN (an:Nat) (a:Nat->Yo) (b:Int):Int:=
  (bif decide (((QJ an a b:Nat):Int) < (an:Int)) then ((QJ an a b:Nat):Int) else ((QJ an a b:Nat):Int))
def UM (an:Nat) (a:Nat->Yo) (b:Int):Bool:=
  (bif decide (((QJ an a b:Nat):Int) < (an:Int)) then X6 (a (Int.toNat ((QJ an a b:Nat):Int))).f0 b==(0:Int) else false)
theorem ZlK (an:Nat) (a:Nat->Yo) (b:Int) (h0:an<=1000):Zi P 244 (.cons (.rsl false 4 an fun j=>Zm false (a j)) (.cons (.int false .i64 b) (.cons (.fn (.func 240) .nil .nil) .nil))) (.tup (.cons (.int false IntKind.i64 (VN an a b)) (.cons (.bool false (UM an a b)) .nil))):=
 YI (Zu hm hn (l:=[Qs]) ⟨UR,trivial⟩ (ls:=[ZdW an a b]) ⟨Zi6 an a b h0,trivial⟩ true) 400 (Has.of hn Tryz.func244 rfl) (dPlD_tree an a b) (Tree.Pre.mk (by refine ⟨?_,⟨?_,trivial⟩⟩; all_goals (first | exact bPlD_fit an a b | (((repeat' (first | exact rfl | exact fun _=>⟨rfl,rfl⟩ | apply And.intro | intro _)); all_goals (try simp only [decide_eq_true_eq,decide_eq_false_iff_not] at *); all_goals omega))))) (by kernel_rfl) (by kernel_rfl)
def VE:Con:=Yf 244 (fun x=>(.cons (.rsl false 4 x.hd.ZC fun j=>Zm false ((fun j=>Wd (x.hd.ZH j)) j)) (.cons (.int false .i64 x.tl.hd.toInt) (.cons (.fn (.func 240) .nil .nil) .nil)))) (fun x=>(.tup (.cons (.int false IntKind.i64 (VN x.hd.ZC (fun j=>Wd (x.hd.ZH j)) x.tl.hd.toInt)) (.cons (.bool false (UM x.hd.ZC (fun j=>Wd (x.hd.ZH j)) x.tl.hd.toInt)) .nil)))) (fun x=>x.hd.ZC<=1000)
theorem ZfS:VE.Ok P:=Yt (fun x h=>ZlK _ _ _ h)
abbrev Za1 (a:Zf) (i:Int) (z:Unit):V:=(.cons (.ptr true 0 0 0 0) (.cons (.int true .i64 0) (.cons (.rsl false 4 (Zf.n0 a) (fun j=>Zm false (a.r0 j))) (.cons (.int false .i64 (((Zf.n0 a):Nat):Int)) (.cons (.int false .i64 i) .nil)))))
abbrev Zbx (a:Zf) (i:Int) (z:Unit):List Blk:=[.var (.cons (.rsl false 4 (Zf.n0 a) (fun j=>Zm false (a.r0 j))) (.cons (.rsl false 4 (Zf.n1 a) (fun j=>Zk false (a.r1 j))) .nil))]
def dc1_R (a:Zf) (i:Int) (z:Unit):Tree Rd:=
 let q0:=(V.cons (V.rsl false 4 a.n0 fun j=>Zm false (a.2 j)) (V.cons (V.rsl false 4 a.n1 fun j=>Zk false (a.4 j)) V.nil))
 let q1:=(V.rsl false 4 a.n0 fun jj=>Zm false (a.2 jj))
 let q2:=[Blk.var (V.cons q1 (V.cons (V.rsl false 4 a.n1 fun jj=>Zk false (a.4 jj)) V.nil))]
 let q3:=(ci (a.2 (Int.toNat i)).f0 V.nil)
 Tree.need (((0:Int)<=i/\i < ((a.n0:Nat):Int))/\((!bif decide ((a.2 (Int.toNat i)).f0 >= (1:Int)) then bif decide ((a.2 (Int.toNat i)).f0<=(8:Int)) then bif decide ((a.2 (Int.toNat i)).f1 >= (1:Int)) then bif decide ((a.2 (Int.toNat i)).f1<=(65535:Int)) then bif decide ((a.2 (Int.toNat i)).f2 >= (0:Int)) then bif decide ((a.2 (Int.toNat i)).f2<=(800:Int)) then bif decide ((a.2 (Int.toNat i)).f3 >= (0:Int)) then decide ((a.2 (Int.toNat i)).f3 < (4:Int)) else false else false else false else false else false else false else false) = false->V.cons (V.agg q0) q3 = V.cons (V.agg q0) q3/\a.n1<=(1000:Nat))) (Tree.node (bif bif bif !bif decide ((a.2 (Int.toNat i)).f0 >= (1:Int)) then bif decide ((a.2 (Int.toNat i)).f0<=(8:Int)) then bif decide ((a.2 (Int.toNat i)).f1 >= (1:Int)) then bif decide ((a.2 (Int.toNat i)).f1<=(65535:Int)) then bif decide ((a.2 (Int.toNat i)).f2 >= (0:Int)) then bif decide ((a.2 (Int.toNat i)).f2<=(800:Int)) then bif decide ((a.2 (Int.toNat i)).f3 >= (0:Int)) then decide ((a.2 (Int.toNat i)).f3 < (4:Int)) else false else false else false else false else false else false else false then true else decide (ZdL (ZY q0) (a.2 (Int.toNat i)).f0 > (8:Int)) then true else false then true else false) (Tree.leaf (Ex.ret,true,V.cons (pt 0) (V.cons (V.int true .i64 (190:Int)) (V.cons q1 (ci ((a.n0:Nat):Int) (ci i V.nil)))),q2)) (Tree.leaf (Ex.normal,true,V.cons (pt 0) (V.cons (V.int true .i64 (0:Int)) (V.cons q1 (ci ((a.n0:Nat):Int) (ci (IntKind.wrap .i64 (i + (1:Int))) V.nil)))),q2)))
theorem dc1_round (a:Zf):Yp P (Zn P [Un,V4,Ur,VL,VE,Ul] [] true) 157 4 1 1 71 [1,2,20,21,22] [(0,.own)] [] (Za1 a) (Zbx a) (fun i=>(bif decide (i < ((a.n0:Nat):Int)) then false else true)) (.exit 0) (dc1_R a):=fun B i z=>by kernel_rfl
def ZdI (a:Zf) (k:Nat):Bool:=(fun (i:Int) (z:Unit)=>(bif bif bif bif !bif decide ((a.2 (Int.toNat i)).f0 >= (1:Int)) then bif decide ((a.2 (Int.toNat i)).f0<=(8:Int)) then bif decide ((a.2 (Int.toNat i)).f1 >= (1:Int)) then bif decide ((a.2 (Int.toNat i)).f1<=(65535:Int)) then bif decide ((a.2 (Int.toNat i)).f2 >= (0:Int)) then bif decide ((a.2 (Int.toNat i)).f2<=(800:Int)) then bif decide ((a.2 (Int.toNat i)).f3 >= (0:Int)) then decide ((a.2 (Int.toNat i)).f3 < (4:Int)) else false else false else false else false else false else false else false then true else decide (ZdL (ZY (V.cons (V.rsl false 4 a.n0 fun j=>Zm false (a.2 j)) (V.cons (V.rsl false 4 a.n1 fun j=>Zk false (a.4 j)) V.nil))) (a.2 (Int.toNat i)).f0 > (8:Int)) then true else false then true else false then true else false)) k ()
abbrev dc1_ets (a:Zf) (i:Int) (z:Unit):V:=(.cons (V.ptr true 0 0 0 0) (.cons (V.int true .i64 (190:Int)) (.cons (V.rsl false 4 a.n0 fun jj=>Zm false (a.2 jj)) (.cons (V.int false .i64 ((a.n0:Nat):Int)) (.cons .junk .nil)))))
def dc1_lp (a:Zf):Lp:=lpL 157 4 1 1 71 [1,2,20,21,22] [(0,.own)] [] (Za1 a) (Zbx a) (.exit 0) .ret () (fun _=>()) (ZdI a) (Zf.n0 a) (dc1_ets a) (Zbx a)
def Zf8 (a:Zf):Prop:=YP 1 [] (Za1 a) (Zbx a) () (Za1 a (0:Nat) ()) (Zbx a (0:Nat) ())
theorem dc1_fit (a:Zf):Zf8 a:=⟨rfl,⟨rfl,trivial⟩⟩
theorem dc1_lp_ok (a:Zf) (hl:a.n0<=1000) (hl2:a.n1<=1000):(dc1_lp a).Ok P:=by
 refine Y4 (Zu hm hn (l:=[Un,V4,Ur,VL,VE,Ul]) ⟨ZeD,ZfE,ZeN,Zfy,ZfS,Ze4,trivial⟩ (ls:=[]) trivial true) rfl (by kernel_rfl) (dc1_round a) exN YB (fun _=>rfl) (step:=fun _ z=>z) (rd:=(fun _ t y=>())) (fun i z=>rfl) (fun i=>(cC rfl rfl)) rfl (fun i hlt hg=>?_) (fun i z hi=>?_)
 ·have hltI:(i:Int) < (((Zf.n0 a):Nat):Int):=by omega
  refine ⟨?_,⟨fun hb0=>trivial,fun hb0=>trivial⟩⟩
  all_goals (repeat' (first | exact rfl | exact fun _=>⟨rfl,rfl⟩ | apply And.intro | intro _))
  all_goals (try simp only [decide_eq_true_eq,decide_eq_false_iff_not,Bool.not_eq_true',Bool.not_eq_false'] at *)
  all_goals (try simp (disch:=omega) only [IntWalk.i64_in])
  all_goals (first | omega)
 ·have hw:=(IntWalk.i64_in ((i:Int) + 1) ⟨by omega,by omega⟩)
  refine ⟨?_,?_⟩
  all_goals (first | exact ⟨rfl,YD (ts:=Za1 a) (a:=()) hw rfl,Z7 _⟩ | exact ⟨rfl,rfl,(by repeat' (first | exact Le.refl _ | exact Le.junk _ rfl | apply Le.cons)),Z7 _⟩)
abbrev Zbp (a:Zf) (i:Int) (z:Unit):V:=(.cons (.ptr true 0 0 0 0) (.cons (.int true .i64 0) (.cons (.rsl false 4 (Zf.n1 a) (fun j=>Zk false (a.r1 j))) (.cons (.int false .i64 (((Zf.n1 a):Nat):Int)) (.cons (.int false .i64 i) .nil)))))
abbrev Za4 (a:Zf) (i:Int) (z:Unit):List Blk:=[.var (.cons (.rsl false 4 (Zf.n0 a) (fun j=>Zm false (a.r0 j))) (.cons (.rsl false 4 (Zf.n1 a) (fun j=>Zk false (a.r1 j))) .nil))]
def dc2_R (a:Zf) (i:Int) (z:Unit):Tree Rd:=
 let q0:=(V.rsl false 4 a.n1 fun jj=>Zk false (a.4 jj))
 let q1:=[Blk.var (V.cons (V.rsl false 4 a.n0 fun jj=>Zm false (a.2 jj)) (V.cons q0 V.nil))]
 let q2:=(V.rsl false 4 a.n0 fun j=>Zm false (a.2 j))
 Tree.need (((0:Int)<=i/\i < ((a.n1:Nat):Int))/\V.cons q2 (ci (a.4 (Int.toNat i)).f1 (V.cons (V.fn (Fn.func (240:Nat)) V.nil V.nil) V.nil)) = V.cons q2 (ci (a.4 (Int.toNat i)).f1 (V.cons (V.fn (Fn.func (240:FuncId)) V.nil V.nil) V.nil))/\a.n0<=(1000:Nat)) (Tree.node (bif bif bif decide ((a.4 (Int.toNat i)).f0 < (1:Int)) then true else bif decide ((a.4 (Int.toNat i)).f0 > (16:Int)) then true else bif (bif bif bif bif bif bif IntKind.wrap .u32 ((BitVec.toNat (BitVec.ofInt (IntKind.bits .u32) (a.4 (Int.toNat i)).f2 &&& ~~~BitVec.ofInt (IntKind.bits .u32) (255:Int)):Nat):Int) != (0:Int) then true else false then true else bif bif IntKind.wrap .u32 ((BitVec.toNat (BitVec.ofInt (IntKind.bits .u32) (a.4 (Int.toNat i)).f3 &&& ~~~BitVec.ofInt (IntKind.bits .u32) (255:Int)):Nat):Int) != (0:Int) then true else false then true else (a.4 (Int.toNat i)).f2==(0:Int) then true else false then true else false then true else false then (170:Int) else (0:Int)) != (0:Int) then true else !UM a.n0 (fun j=>Wd (Zm false (a.2 j))) (a.4 (Int.toNat i)).f1 then true else false then true else false) (Tree.leaf (Ex.ret,true,V.cons (pt 0) (V.cons (V.int true .i64 (190:Int)) (V.cons q0 (ci ((a.n1:Nat):Int) (ci i V.nil)))),q1)) (Tree.leaf (Ex.normal,true,V.cons (pt 0) (V.cons (V.int true .i64 (0:Int)) (V.cons q0 (ci ((a.n1:Nat):Int) (ci (IntKind.wrap .i64 (i + (1:Int))) V.nil)))),q1)))
theorem dc2_round (a:Zf):Yp P (Zn P [Un,V4,Ur,VL,VE,Ul] [] true) 157 10 1 1 71 [1,2,38,39,40] [(0,.own)] [] (Zbp a) (Za4 a) (fun i=>(bif decide (i < ((a.n1:Nat):Int)) then false else true)) (.exit 2) (dc2_R a):=fun B i z=>by kernel_rfl
def Ze9 (a:Zf) (k:Nat):Bool:=(fun (i:Int) (z:Unit)=>(bif bif bif bif decide ((a.4 (Int.toNat i)).f0 < (1:Int)) then true else bif decide ((a.4 (Int.toNat i)).f0 > (16:Int)) then true else bif (bif bif bif bif bif bif IntKind.wrap .u32 ((BitVec.toNat (BitVec.ofInt (IntKind.bits .u32) (a.4 (Int.toNat i)).f2 &&& ~~~BitVec.ofInt (IntKind.bits .u32) (255:Int)):Nat):Int) != (0:Int) then true else false then true else bif bif IntKind.wrap .u32 ((BitVec.toNat (BitVec.ofInt (IntKind.bits .u32) (a.4 (Int.toNat i)).f3 &&& ~~~BitVec.ofInt (IntKind.bits .u32) (255:Int)):Nat):Int) != (0:Int) then true else false then true else (a.4 (Int.toNat i)).f2==(0:Int) then true else false then true else false then true else false then (170:Int) else (0:Int)) != (0:Int) then true else !UM a.n0 (fun j=>Wd (Zm false (a.2 j))) (a.4 (Int.toNat i)).f1 then true else false then true else false then true else false)) k ()
abbrev dc2_ets (a:Zf) (i:Int) (z:Unit):V:=(.cons (V.ptr true 0 0 0 0) (.cons (V.int true .i64 (190:Int)) (.cons (V.rsl false 4 a.n1 fun jj=>Zk false (a.4 jj)) (.cons (V.int false .i64 ((a.n1:Nat):Int)) (.cons .junk .nil)))))
def dc2_lp (a:Zf):Lp:=lpL 157 10 1 1 71 [1,2,38,39,40] [(0,.own)] [] (Zbp a) (Za4 a) (.exit 2) .ret () (fun _=>()) (Ze9 a) (Zf.n1 a) (dc2_ets a) (Za4 a)
def Zg6 (a:Zf):Prop:=YP 1 [] (Zbp a) (Za4 a) () (Zbp a (0:Nat) ()) (Za4 a (0:Nat) ())
theorem dc2_fit (a:Zf):Zg6 a:=⟨rfl,⟨rfl,trivial⟩⟩
theorem dc2_lp_ok (a:Zf) (hl:a.n0<=1000) (hl2:a.n1<=1000):(dc2_lp a).Ok P:=by
 refine Y4 (Zu hm hn (l:=[Un,V4,Ur,VL,VE,Ul]) ⟨ZeD,ZfE,ZeN,Zfy,ZfS,Ze4,trivial⟩ (ls:=[]) trivial true) rfl (by kernel_rfl) (dc2_round a) exN YB (fun _=>rfl) (step:=fun _ z=>z) (rd:=(fun _ t y=>())) (fun i z=>rfl) (fun i=>(cC rfl rfl)) rfl (fun i hlt hg=>?_) (fun i z hi=>?_)
 ·have hltI:(i:Int) < (((Zf.n1 a):Nat):Int):=by omega
  refine ⟨?_,⟨fun hb0=>trivial,fun hb0=>trivial⟩⟩
  all_goals (repeat' (first | exact rfl | exact fun _=>⟨rfl,rfl⟩ | apply And.intro | intro _))
  all_goals (try simp only [decide_eq_true_eq,decide_eq_false_iff_not,Bool.not_eq_true',Bool.not_eq_false'] at *)
  all_goals (try simp (disch:=omega) only [IntWalk.i64_in])
  all_goals (first | omega)
 ·have hw:=(IntWalk.i64_in ((i:Int) + 1) ⟨by omega,by omega⟩)
  refine ⟨?_,?_⟩
  all_goals (first | exact ⟨rfl,YD (ts:=Zbp a) (a:=()) hw rfl,Z7 _⟩ | exact ⟨rfl,rfl,(by repeat' (first | exact Le.refl _ | exact Le.junk _ rfl | apply Le.cons)),Z7 _⟩)
def dCheck_T (a:Zf):Tree V:=
 let q0:=(Tree.leaf (V.int true .i64 (190:Int)))
 let q1:=(V.rsl false 4 a.n0 fun j=>Zm false (a.2 j))
 let q2:=(V.rsl false 4 a.n1 fun j=>Zk false (a.4 j))
 Tree.need ((V.cons q1 (V.cons (V.fn (Fn.func (240:Nat)) V.nil V.nil) V.nil) = V.cons q1 (V.cons (V.fn (Fn.func (240:FuncId)) V.nil V.nil) V.nil)/\a.n0<=(1000:Nat))/\((!G6 a.n0 fun j=>Wd (Zm false (a.2 j))) = false->V.cons q2 (V.cons (V.fn (Fn.func (207:Nat)) V.nil V.nil) V.nil) = V.cons q2 (V.cons (V.fn (Fn.func (207:FuncId)) V.nil V.nil) V.nil)/\a.n1<=(1000:Nat))) (Tree.node (bif bif !G6 a.n0 fun j=>Wd (Zm false (a.2 j)) then true else !Zbv a.n1 fun j=>Y8 (Zk false (a.4 j)) then true else false) q0 (Tree.need (Zf8 a) (Tree.node (bif Zp (ZdI a) a.n0 then true else false) q0 (Tree.need (Zg6 a) (Tree.node (bif Zp (Ze9 a) a.n1 then true else false) q0 (Tree.leaf (V.int true .i64 (0:Int))))))))
theorem Zmp (a:Zf):ZQ (Zn P [Un,V4,Ur,VL,VE,Ul] [dc1_lp a,dc2_lp a] true) 400 157 (.cons (.agg (Qi false a)) .nil) = dCheck_T a:=by kernel_rfl
def Wm (a:Zf):Int:=
  (bif bif bif !G6 a.n0 fun j=>Wd (Zm false (a.2 j)) then true else !Zbv a.n1 fun j=>Y8 (Zk false (a.4 j)) then true else false
  then (190:Int) else bif bif Zp (ZdI a) a.n0 then true else false then (190:Int) else bif bif Zp (Ze9 a) a.n1 then true else false then (190:Int) else (0 :
  Int))
theorem Zme (a:Zf) (h0:a.n0<=1000) (h1:a.n1<=1000):Zi P 157 (.cons (.agg (Qi false a)) .nil) (.int false IntKind.i64 (Wm a)):=
 YI (Zu hm hn (l:=[Un,V4,Ur,VL,VE,Ul]) ⟨ZeD,ZfE,ZeN,Zfy,ZfS,Ze4,trivial⟩ (ls:=[dc1_lp a,dc2_lp a]) ⟨dc1_lp_ok a h0 h1,dc2_lp_ok a h0 h1,trivial⟩ true) 400 (Has.of hn Tryz.func157 rfl) (Zmp a) (Tree.Pre.mk (by refine ⟨?_,⟨fun _=>trivial,fun _=>⟨?_,⟨fun _=>trivial,fun _=>⟨?_,⟨fun _=>trivial,fun _=>trivial⟩⟩⟩⟩⟩⟩; all_goals (first | exact dc1_fit a | exact dc2_fit a | (((repeat' (first | exact rfl | exact fun _=>⟨rfl,rfl⟩ | apply And.intro | intro _)); all_goals (try simp only [decide_eq_true_eq,decide_eq_false_iff_not] at *); all_goals omega))))) (by kernel_rfl) (by kernel_rfl)
def JR:Con:=Yf 157 (fun x=>(.cons (.agg (Qi false (ZY x.hd.inner))) .nil)) (fun x=>(.int false IntKind.i64 (Wm (ZY x.hd.inner)))) (fun x=>(ZY x.hd.inner).n0<=1000/\(ZY x.hd.inner).n1<=1000)
theorem Zdu:JR.Ok P:=Yt (fun x h=>Zme _ h.1 h.2)
abbrev ZaA (n:Nat) (r:Nat->DT3) (i:Int) (z:Int):V:=(.cons (.rsl false 1 n (fun j=>Ym false (r j))) (.cons (.bool true false) (.cons (.int false .i64 (z)) (.cons (.rsl false 1 n (fun j=>Ym false (r j))) (.cons (.int false .i64 ((n:Nat):Int)) (.cons (.int false .i64 i) .nil))))))
abbrev Zbt (n:Nat) (r:Nat->DT3) (i:Int) (z:Int):List Blk:=[]
def gmy_R (n:Nat) (r:Nat->DT3) (i:Int) (z:Int):Tree Rd:=
 let q0:=(V.rsl false 1 n fun jj=>ci (r jj).f0 V.nil)
 Tree.need ((0:Int)<=i/\i < (n:Int)) (Tree.node (bif bif bif decide ((r (Int.toNat i)).f0<=z) then true else decide ((r (Int.toNat i)).f0 > (16:Int)) then true else false then true else false) (Tree.leaf (Ex.ret,true,V.cons q0 (V.cons (V.bool true false) (ci z (V.cons q0 (ci (n:Int) (ci i V.nil))))),[])) (Tree.leaf (Ex.normal,true,V.cons q0 (V.cons (V.bool true false) (ci (r (Int.toNat i)).f0 (V.cons q0 (ci (n:Int) (ci (IntKind.wrap .i64 (i + (1:Int))) V.nil))))),[])))
theorem gmy_round (n:Nat) (r:Nat->DT3):Yp P (Zn P [] [] true) 220 3 0 0 29 [0,2,3,6,7,8] [] [] (ZaA n r) (Zbt n r) (fun i=>(bif decide (i < (n:Int)) then false else true)) (.exit 0) (gmy_R n r):=fun B i z=>by kernel_rfl
def gmy_step (n:Nat) (r:Nat->DT3) (k:Nat) (z:Int):Int:=(gmy_R n r k z).carry ((fun t y=>(t.nth 2).toInt)) z
def gmy_acc (n:Nat) (r:Nat->DT3) (k:Nat):Int:=ZI 0 (gmy_step n r) k
def Zfx (n:Nat) (r:Nat->DT3) (k:Nat):Bool:=(gmy_R n r k (gmy_acc n r k)).early
abbrev gmy_ets (n:Nat) (r:Nat->DT3) (i:Int) (z:Int):V:=(.cons (V.rsl false 1 n fun jj=>V.cons (V.int false .i64 (r jj).f0) V.nil) (.cons (V.bool true false) (.cons .junk (.cons (V.rsl false 1 n fun jj=>V.cons (V.int false .i64 (r jj).f0) V.nil) (.cons (V.int false .i64 (n:Int)) (.cons .junk .nil))))))
def gmy_lp (n:Nat) (r:Nat->DT3):Lp:=lpL 220 3 0 0 29 [0,2,3,6,7,8] [] [] (ZaA n r) (Zbt n r) (.exit 0) .ret 0 (gmy_acc n r) (Zfx n r) (n) (gmy_ets n r) (Zbt n r)
def Zgt (n:Nat) (r:Nat->DT3):Prop:=YP 0 [] (ZaA n r) (Zbt n r) 0 (ZaA n r (0:Nat) 0) (Zbt n r (0:Nat) 0)
theorem gmy_fit (n:Nat) (r:Nat->DT3):Zgt n r:=⟨rfl,trivial⟩
theorem gmy_lp_ok (n:Nat) (r:Nat->DT3) (hl:n<=1000):(gmy_lp n r).Ok P:=by
 refine Y4 (Zu hm hn (l:=[]) trivial (ls:=[]) trivial true) rfl (by kernel_rfl) (gmy_round n r) exN YB (fun _=>rfl) (rd:=(fun _ t y=>(t.nth 2).toInt)) (fun i z=>rfl) (fun i=>rfl) rfl (fun i hlt hg=>?_) (fun i z hi=>?_)
 ·have hltI:(i:Int) < ((n:Nat):Int):=by omega
  refine ⟨?_,⟨fun hb0=>trivial,fun hb0=>trivial⟩⟩
  all_goals (repeat' (first | exact rfl | exact fun _=>⟨rfl,rfl⟩ | apply And.intro | intro _))
  all_goals (try simp only [decide_eq_true_eq,decide_eq_false_iff_not,Bool.not_eq_true',Bool.not_eq_false'] at *)
  all_goals (try simp (disch:=omega) only [IntWalk.i64_in])
  all_goals (first | omega)
 ·have hw:=(IntWalk.i64_in ((i:Int) + 1) ⟨by omega,by omega⟩)
  refine ⟨?_,?_⟩
  all_goals (first | exact ⟨rfl,YD (ts:=ZaA n r) hw rfl,Z7 _⟩ | exact ⟨rfl,rfl,(by repeat' (first | exact Le.refl _ | exact Le.junk _ rfl | apply Le.cons)),Z7 _⟩)
def gMay_T (an:Nat) (a:Nat->DT3):Tree V:=
 Tree.need (Zgt an a) (Tree.node (bif Zp (Zfx an a) an then true else false) (Tree.leaf (V.bool true false)) (Tree.leaf (V.bool false (bif decide ((an:Int) >= (2:Int)) then decide ((an:Int)<=(8:Int)) else false))))
theorem gMay_tree (an:Nat) (a:Nat->DT3):ZQ (Zn P [] [gmy_lp an a] true) 400 220 (.cons (.rsl false 1 an fun j=>Ym false (a j)) .nil) = gMay_T an a:=by kernel_rfl
def Uc (an:Nat) (a:Nat->DT3):Bool:=
  (bif bif Zp (Zfx an a) an then true else false then false else bif decide ((an:Int) >= (2:Int)) then decide ((an:Int)<=(8:Int)) else false)
theorem Zi7 (an:Nat) (a:Nat->DT3) (h0:an<=1000):Zi P 220 (.cons (.rsl false 1 an fun j=>Ym false (a j)) .nil) (.bool false (Uc an a)):=
 YI (Zu hm hn (l:=[]) trivial (ls:=[gmy_lp an a]) ⟨gmy_lp_ok an a h0,trivial⟩ true) 400 (Has.of hn Tryz.func220 rfl) (gMay_tree an a) (Tree.Pre.mk (by refine ⟨?_,⟨fun _=>trivial,fun _=>trivial⟩⟩; all_goals (first | exact gmy_fit an a | (repeat' (first | exact rfl | apply And.intro))))) (by kernel_rfl) (by kernel_rfl)
def Zby:Con:=Yf 220 (fun x=>(.cons (.rsl false 1 x.hd.ZC fun j=>Ym false ((fun j=>YF (x.hd.ZH j)) j)) .nil)) (fun x=>(.bool false (Uc x.hd.ZC (fun j=>YF (x.hd.ZH j))))) (fun x=>x.hd.ZC<=1000)
theorem Zhi:Zby.Ok P:=Yt (fun x h=>Zi7 _ _ h)
abbrev gc2_ts (d:Yw) (w lst:Int) (m:Nat) (r:Nat->DT3) (h g:Int->Bool) (x0:Int) (i:Int) (z:(Int->Bool)×(Int->Bool)):V:=(.cons (.int true .i64 0) (.cons (.mp 1) (.cons (.int false .i64 lst) (.cons (.rsl false 2 d.n0 (fun j=>ZE false (d.r0 j))) (.cons (.int false .i64 ((d.n0:Nat):Int)) (.cons (.int false .i64 w) (.cons (.rsl false 1 m (fun j=>Ym false (r j))) (.cons (.int false .i64 ((m:Nat):Int)) (.cons (.int false .i64 i) .nil)))))))))
abbrev gc2_ys (d:Yw) (w lst:Int) (m:Nat) (r:Nat->DT3) (h g:Int->Bool) (x0:Int) (i:Int) (z:(Int->Bool)×(Int->Bool)):List Blk:=[.var (.cons (.rsl false 2 d.n0 (fun j=>ZE false (d.r0 j))) .nil),.Ze (.int .i64) false (fun x=>(z.1 (Za x),.bool false (z.2 (Za x)))) none,.var (.cons (.int false .i64 x0) (.cons (.rsl false 1 m (fun j=>Ym false (r j))) .nil))]
def gc2_R (d:Yw) (w lst:Int) (m:Nat) (r:Nat->DT3) (h g:Int->Bool) (x0:Int) (i:Int) (z:(Int->Bool)×(Int->Bool)):Tree Rd:=
 let q0:=(V.rsl false 1 m fun jj=>ci (r jj).f0 V.nil)
 let q1:=(V.rsl false 2 d.n0 fun jj=>ZE false (d.2 jj))
 Tree.need ((0:Int)<=i/\i < (m:Int)) (Tree.node (bif bif bif z.1 (r (Int.toNat i)).f0 then z.2 (r (Int.toNat i)).f0 else false then true else false then true else false) (Tree.leaf (Ex.ret,true,V.cons (V.int true .i64 (240:Int)) (V.cons (V.mp 1) (ci lst (V.cons q1 (ci ((d.n0:Nat):Int) (ci w (V.cons q0 (ci (m:Int) (ci i V.nil)))))))),[Blk.var (V.cons q1 V.nil),Blk.Ze (MK.int .i64) false (fun k=>(z.1 (Za k),V.bool false (z.2 (Za k)))) none,Blk.var (ci x0 (V.cons q0 V.nil))])) (Tree.leaf (Ex.normal,true,V.cons (V.int true .i64 (0:Int)) (V.cons (V.mp 1) (ci lst (V.cons q1 (ci ((d.n0:Nat):Int) (ci w (V.cons q0 (ci (m:Int) (ci (IntKind.wrap .i64 (i + (1:Int))) V.nil)))))))),[Blk.var (V.cons q1 V.nil),Blk.Ze (MK.int .i64) false (fun k=>(bif Zj k (Value.int .i64 (r (Int.toNat i)).f0) then true else z.1 (Za k),V.bool false (bif Zj k (Value.int .i64 (r (Int.toNat i)).f0) then true else z.2 (Za k)))) none,Blk.var (ci x0 (V.cons q0 V.nil))])))
theorem gc2_round (d:Yw) (w lst:Int) (m:Nat) (r:Nat->DT3) (h g:Int->Bool) (x0:Int):Yp P (Zn P [] [] true) 135 10 3 3 48 [2,3,4,11,12,13,35,36,37] [(0,.own),(1,.own),(2,.own)] [] (gc2_ts d w lst m r h g x0) (gc2_ys d w lst m r h g x0) (fun i=>(bif decide (i < (m:Int)) then false else true)) (.exit 2) (gc2_R d w lst m r h g x0):=fun B i z=>by kernel_rfl
def gc2_step (m:Nat) (r:Nat->DT3) (h g:Int->Bool) (k:Nat) (z:(Int->Bool)×(Int->Bool)):(Int->Bool)×(Int->Bool):=(fun (i:Int) (z:(Int->Bool)×(Int->Bool))=>(bif bif bif bif z.1 (r (Int.toNat i)).f0 then z.2 (r (Int.toNat i)).f0 else false then true else false then true else false then ((z.1,z.2)) else (((fun (j_:Int)=>bif j_==(r (Int.toNat i)).f0 then true else z.1 (j_)),(fun (j_:Int)=>bif j_==(r (Int.toNat i)).f0 then true else z.2 (j_)))))) k z
def Zac (m:Nat) (r:Nat->DT3) (h g:Int->Bool) (k:Nat):(Int->Bool)×(Int->Bool):=ZI (h,g) (gc2_step m r h g) k
def Zdg (m:Nat) (r:Nat->DT3) (h g:Int->Bool) (k:Nat):Bool:=(fun (i:Int) (z:(Int->Bool)×(Int->Bool))=>(bif bif bif bif z.1 (r (Int.toNat i)).f0 then z.2 (r (Int.toNat i)).f0 else false then true else false then true else false then true else false)) k (Zac m r h g k)
abbrev gc2_ets (d:Yw) (w lst:Int) (m:Nat) (r:Nat->DT3) (h g:Int->Bool) (x0:Int) (i:Int) (z:(Int->Bool)×(Int->Bool)):V:=(.cons (V.int true .i64 (240:Int)) (.cons (V.mp 1) (.cons (V.int false .i64 lst) (.cons (V.rsl false 2 d.n0 fun jj=>ZE false (d.2 jj)) (.cons (V.int false .i64 ((d.n0:Nat):Int)) (.cons (V.int false .i64 w) (.cons (V.rsl false 1 m fun jj=>V.cons (V.int false .i64 (r jj).f0) V.nil) (.cons (V.int false .i64 (m:Int)) (.cons .junk .nil)))))))))
abbrev gc2_eys (d:Yw) (w lst:Int) (m:Nat) (r:Nat->DT3) (h g:Int->Bool) (x0:Int) (i:Int) (z:(Int->Bool)×(Int->Bool)):List Blk:=[.var (.cons (.rsl false 2 d.n0 (fun j=>ZE false (d.r0 j))) .nil),.any,.var (.cons (.int false .i64 x0) (.cons (.rsl false 1 m (fun j=>Ym false (r j))) .nil))]
def gc2_lp (d:Yw) (w lst:Int) (m:Nat) (r:Nat->DT3) (h g:Int->Bool) (x0:Int):Lp:=lpL 135 10 3 3 48 [2,3,4,11,12,13,35,36,37] [(0,.own),(1,.own),(2,.own)] [] (gc2_ts d w lst m r h g x0) (gc2_ys d w lst m r h g x0) (.exit 2) .ret (h,g) (Zac m r h g) (Zdg m r h g) (m) (gc2_ets d w lst m r h g x0) (gc2_eys d w lst m r h g x0)
theorem gc2_lp_ok (d:Yw) (w lst:Int) (m:Nat) (r:Nat->DT3) (h g:Int->Bool) (x0:Int) (hl:m<=1000):(gc2_lp d w lst m r h g x0).Ok P:=by
 refine Y4 (Zu hm hn (l:=[]) trivial (ls:=[]) trivial true) rfl (by kernel_rfl) (gc2_round d w lst m r h g x0) exN YB (fun _=>rfl) (rd:=(fun _ t y=>((fun j=>(y.getD 1 .none).hasK .i64 j),(fun j=>(y.getD 1 .none).getB .i64 j)))) (fun i z=>(cC rfl rfl)) (fun i=>(cC rfl rfl)) rfl (fun i hlt hg=>?_) (fun i z hi=>?_)
 ·have hltI:(i:Int) < ((m:Nat):Int):=by omega
  refine ⟨?_,⟨fun hb0=>trivial,fun hb0=>trivial⟩⟩
  all_goals (repeat' (first | exact rfl | exact fun _=>⟨rfl,rfl⟩ | apply And.intro | intro _))
  all_goals (try simp only [decide_eq_true_eq,decide_eq_false_iff_not,Bool.not_eq_true',Bool.not_eq_false'] at *)
  all_goals (try simp (disch:=omega) only [IntWalk.i64_in])
  all_goals (first | omega)
 ·have hw:=(IntWalk.i64_in ((i:Int) + 1) ⟨by omega,by omega⟩)
  refine ⟨?_,?_⟩
  all_goals (first | exact ⟨rfl,YD (ts:=gc2_ts d w lst m r h g x0) hw rfl,⟨LeK.refl _,Y6 fun a=>⟨rfl,Le.soft rfl⟩,LeK.refl _,trivial⟩⟩ | exact ⟨rfl,rfl,(by repeat' (first | exact Le.refl _ | exact Le.junk _ rfl | apply Le.cons)),⟨LeK.refl _,LeK.any _,LeK.refl _,trivial⟩⟩)
def gc2_in  : Lp:=⟨135,10,fun _ s=>(s.tmp 11).UJ .stuck fun n11 r11=>(s.tmp 13).QF .stuck fun w=>(s.tmp 4).QF .stuck fun lst=>(s.tmp 35).UJ .stuck fun m r35=>(s.blk 1).onMap .stuck fun fm=>(s.blk 2).onVar .stuck fun c2=>(c2.hd).QF .stuck fun x0=>.need ((fun (d:Yw) (w lst:Int) (m:Nat) (r:Nat->DT3) (h g:Int->Bool) (x0:Int)=>m<=1000) ⟨n11,fun j=>ZdV (r11 j)⟩ w lst m (fun j=>YF (r35 j)) (fun j=>(fm (.int .i64 j)).1) (fun j=>(fm (.int .i64 j)).2.toBool) x0) ((gc2_lp ⟨n11,fun j=>ZdV (r11 j)⟩ w lst m (fun j=>YF (r35 j)) (fun j=>(fm (.int .i64 j)).1) (fun j=>(fm (.int .i64 j)).2.toBool) x0).g _ s)⟩
theorem gc2_in_ok   : (gc2_in ).Ok P:=by
 intro body hin hfr B s Q hq
 obtain ⟨n11,r11,hq⟩:=G9 hq
 obtain ⟨w,hq⟩:=Ji hq
 obtain ⟨lst,hq⟩:=Ji hq
 obtain ⟨m,r35,hq⟩:=G9 hq
 obtain ⟨fm,hq⟩:=Ze8 hq
 obtain ⟨c2,hq⟩:=onVar_h hq
 obtain ⟨x0,hq⟩:=Ji hq
 exact gc2_lp_ok _ _ _ _ _ _ _ _  hq.1  body hin hfr B s Q hq.2
abbrev Zag (a:Yw) (i:Int) (z:Int×(Int->Bool)×(Int->Bool)):V:=(.cons (.int true .i64 0) (.cons (.mp 1) (.cons (.int false .i64 (z.1)) (.cons (.rsl false 2 (Yw.n0 a) (fun j=>ZE false (a.r0 j))) (.cons (.int false .i64 (((Yw.n0 a):Nat):Int)) (.cons (.int false .i64 i) .nil))))))
abbrev Zc4 (a:Yw) (i:Int) (z:Int×(Int->Bool)×(Int->Bool)):List Blk:=[.var (.cons (.rsl false 2 (Yw.n0 a) (fun j=>ZE false (a.r0 j))) .nil),.Ze (.int .i64) false (fun x=>(z.2.1 (Za x),.bool false (z.2.2 (Za x)))) none]
def gc1_R (a:Yw) (i:Int) (z:Int×(Int->Bool)×(Int->Bool)):Tree Rd:=
 let q5:=(vi (a.2 (Int.toNat i)).f0)
 let q1:=(V.rsl false 2 a.n0 fun j=>ZE false (a.2 j))
 let q6:=(vi ((a.n0:Nat):Int))
 let q2:=(V.rsl false 1 (a.2 (Int.toNat i)).n1 fun j=>ci ((a.2 (Int.toNat i)).3 j).f0 V.nil)
 let q8:=(vi (0:Int))
 let q0:=(V.cons (V.mp 1) (V.cons q5 (V.cons q1 (V.cons q6 (ci i (V.cons q2 (ci (((a.2 (Int.toNat i)).n1:Nat):Int) (V.cons q8 V.nil))))))))
 let q3:=(Zac (a.2 (Int.toNat i)).n1 (fun j=>YF (Ym false ((a.2 (Int.toNat i)).3 j))) (fun j=>(Prod.snd z).1 j) (fun j=>(Prod.snd z).2 j) (a.2 (Int.toNat i)).n1)
 let q7:=(V.rsl false 2 a.n0 fun jj=>ZE false (a.2 jj))
 let q4:=(V.cons q7 (V.cons q6 (ci i V.nil)))
 Tree.need ((0:Int)<=i/\i < ((a.n0:Nat):Int)) (Tree.need (decide ((a.2 (Int.toNat i)).f0<=Prod.fst z) = false->decide ((a.2 (Int.toNat i)).f0 > (8:Int)) = false->V.cons q2 V.nil = V.cons q2 V.nil/\(a.2 (Int.toNat i)).n1<=(1000:Nat)) (Tree.node (bif bif decide ((a.2 (Int.toNat i)).f0<=Prod.fst z) then true else bif decide ((a.2 (Int.toNat i)).f0 > (8:Int)) then true else !Uc (a.2 (Int.toNat i)).n1 fun j=>YF (Ym false ((a.2 (Int.toNat i)).3 j)) then true else false) (Tree.leaf (Ex.ret,true,V.cons (V.int true .i64 (240:Int)) (V.cons (V.mp 1) (ci (Prod.fst z) q4)),[Blk.var (V.cons q7 V.nil),Blk.Ze (MK.int .i64) false (fun k=>((Prod.snd z).1 (Za k),V.bool false ((Prod.snd z).2 (Za k)))) none])) (Tree.need ((a.2 (Int.toNat i)).n1<=(1000:Nat)/\V.cons q8 q0 = V.cons q8 q0/\V.cons q1 V.nil = V.cons q1 V.nil/\(IntKind.i64 = IntKind.i64/\ZX .i64 (fun x=>((Prod.snd z).1 (Za x),V.bool false ((Prod.snd z).2 (Za x)))) fun k=>((Prod.snd z).1 (Za k),V.bool false ((Prod.snd z).2 (Za k))))/\ZE false (a.2 (Int.toNat i)) = ZE false (a.2 (Int.toNat i))/\True) (Tree.node (bif Zp (Zdg (a.2 (Int.toNat i)).n1 (fun j=>YF (Ym false ((a.2 (Int.toNat i)).3 j))) (fun j=>(Prod.snd z).1 j) fun j=>(Prod.snd z).2 j) (a.2 (Int.toNat i)).n1 then true else false) (Tree.leaf (Ex.ret,true,V.cons (V.int true .i64 (240:Int)) (V.cons (V.mp 1) (V.cons q5 q4)),[Blk.var (V.cons q1 V.nil),Blk.any])) (Tree.leaf (Ex.normal,true,V.cons (V.int true .i64 (0:Int)) (V.cons (V.mp 1) (V.cons q5 (V.cons q1 (V.cons q6 (ci (IntKind.wrap .i64 (i + (1:Int))) V.nil))))),[Blk.var (V.cons q1 V.nil),Blk.Ze (MK.int .i64) false (fun k=>(q3.1 (Za k),V.bool false (q3.2 (Za k)))) none]))))))
theorem gc1_round (a:Yw):Yp P (Zn P [Zby] [gc2_in ] true) 135 4 2 2 48 [2,3,4,11,12,13] [(0,.own),(1,.own)] [] (Zag a) (Zc4 a) (fun i=>(bif decide (i < ((a.n0:Nat):Int)) then false else true)) (.exit 0) (gc1_R a):=fun B i z=>by kernel_rfl
def gc1_step (a:Yw) (k:Nat) (z:Int×(Int->Bool)×(Int->Bool)):Int×(Int->Bool)×(Int->Bool):=(fun (i:Int) (z:Int×(Int->Bool)×(Int->Bool))=>(bif bif bif decide ((a.2 (Int.toNat i)).f0<=Prod.fst z) then true else bif decide ((a.2 (Int.toNat i)).f0 > (8:Int)) then true else !Uc (a.2 (Int.toNat i)).n1 fun j=>YF (Ym false ((a.2 (Int.toNat i)).3 j)) then true else false then ((z.1,z.2.1,z.2.2)) else (bif bif Zp (Zdg (a.2 (Int.toNat i)).n1 (fun j=>YF (Ym false ((a.2 (Int.toNat i)).3 j))) (fun j=>(Prod.snd z).1 j) fun j=>(Prod.snd z).2 j) (a.2 (Int.toNat i)).n1 then true else false then ((z.1,z.2.1,z.2.2)) else (((a.2 (Int.toNat i)).f0,(fun (j_:Int)=>(Zac (a.2 (Int.toNat i)).n1 (fun j=>YF (Ym false ((a.2 (Int.toNat i)).3 j))) (fun j=>(Prod.snd z).1 j) (fun j=>(Prod.snd z).2 j) (a.2 (Int.toNat i)).n1).1 (j_)),(fun (j_:Int)=>(Zac (a.2 (Int.toNat i)).n1 (fun j=>YF (Ym false ((a.2 (Int.toNat i)).3 j))) (fun j=>(Prod.snd z).1 j) (fun j=>(Prod.snd z).2 j) (a.2 (Int.toNat i)).n1).2 (j_))))))) k z
def gc1_acc (a:Yw) (k:Nat):Int×(Int->Bool)×(Int->Bool):=ZI (0,(fun (j_:Int)=>(false)),(fun (j_:Int)=>(false))) (gc1_step a) k
def Zfp (a:Yw) (k:Nat):Bool:=(fun (i:Int) (z:Int×(Int->Bool)×(Int->Bool))=>(bif bif bif decide ((a.2 (Int.toNat i)).f0<=Prod.fst z) then true else bif decide ((a.2 (Int.toNat i)).f0 > (8:Int)) then true else !Uc (a.2 (Int.toNat i)).n1 fun j=>YF (Ym false ((a.2 (Int.toNat i)).3 j)) then true else false then true else (bif bif Zp (Zdg (a.2 (Int.toNat i)).n1 (fun j=>YF (Ym false ((a.2 (Int.toNat i)).3 j))) (fun j=>(Prod.snd z).1 j) fun j=>(Prod.snd z).2 j) (a.2 (Int.toNat i)).n1 then true else false then true else false))) k (gc1_acc a k)
abbrev gc1_ets (a:Yw) (i:Int) (z:Int×(Int->Bool)×(Int->Bool)):V:=(.cons (V.int true .i64 (240:Int)) (.cons (V.mp 1) (.cons .junk (.cons (V.rsl false 2 a.n0 fun jj=>ZE false (a.2 jj)) (.cons (V.int false .i64 ((a.n0:Nat):Int)) (.cons .junk .nil))))))
abbrev gc1_eys (a:Yw) (i:Int) (z:Int×(Int->Bool)×(Int->Bool)):List Blk:=[.var (.cons (.rsl false 2 (Yw.n0 a) (fun j=>ZE false (a.r0 j))) .nil),.any]
def gc1_lp (a:Yw):Lp:=lpL 135 4 2 2 48 [2,3,4,11,12,13] [(0,.own),(1,.own)] [] (Zag a) (Zc4 a) (.exit 0) .ret (0,(fun (j_:Int)=>(false)),(fun (j_:Int)=>(false))) (gc1_acc a) (Zfp a) (Yw.n0 a) (gc1_ets a) (gc1_eys a)
def gc1_need (a:Yw):Prop:=YP 2 [] (Zag a) (Zc4 a) (0,(fun (j_:Int)=>(false)),(fun (j_:Int)=>(false))) (Zag a (0:Nat) (0,(fun (j_:Int)=>(false)),(fun (j_:Int)=>(false)))) (Zc4 a (0:Nat) (0,(fun (j_:Int)=>(false)),(fun (j_:Int)=>(false))))
theorem gc1_fit (a:Yw):gc1_need a:=⟨rfl,⟨rfl,⟨rfl,fun _=>⟨rfl,rfl⟩⟩,trivial⟩⟩
theorem gc1_lp_ok (a:Yw) (hl:a.n0<=1000) (hl2:∀ j,(a.r0 j).n1<=1000):(gc1_lp a).Ok P:=by
 refine Y4 (Zu hm hn (l:=[Zby]) ⟨Zhi,trivial⟩ (ls:=[gc2_in ]) ⟨gc2_in_ok  ,trivial⟩ true) rfl (by kernel_rfl) (gc1_round a) exN YB (fun _=>rfl) (rd:=(fun _ t y=>((t.nth 2).toInt,(fun j=>(y.getD 1 .none).hasK .i64 j),(fun j=>(y.getD 1 .none).getB .i64 j)))) (fun i z=>(cC rfl (cC rfl rfl))) (fun i=>(cC rfl (cC rfl rfl))) rfl (fun i hlt hg=>?_) (fun i z hi=>?_)
 ·have hltI:(i:Int) < (((Yw.n0 a):Nat):Int):=by omega
  refine ⟨?_,⟨?_,⟨fun hb0=>trivial,fun hb0=>⟨?_,⟨fun hb1=>trivial,fun hb1=>trivial⟩⟩⟩⟩⟩
  all_goals (repeat' (first | exact rfl | exact fun _=>⟨rfl,rfl⟩ | apply And.intro | intro _))
  all_goals (try simp only [decide_eq_true_eq,decide_eq_false_iff_not,Bool.not_eq_true',Bool.not_eq_false'] at *)
  all_goals (try simp (disch:=omega) only [IntWalk.i64_in])
  all_goals (first | omega | exact hl2 _)
 ·have hw:=(IntWalk.i64_in ((i:Int) + 1) ⟨by omega,by omega⟩)
  refine ⟨?_,⟨?_,?_⟩⟩
  all_goals (first | exact ⟨rfl,YD (ts:=Zag a) hw rfl,⟨LeK.refl _,Y6 fun a=>⟨rfl,Le.soft rfl⟩,trivial⟩⟩ | exact ⟨rfl,rfl,(by repeat' (first | exact Le.refl _ | exact Le.junk _ rfl | apply Le.cons)),⟨LeK.refl _,LeK.any _,trivial⟩⟩)
def gCheck_T (a:Yw):Tree V:=
 let q2:=(vi (0:Int))
 let q1:=(V.rsl false 2 a.n0 fun j=>ZE false (a.2 j))
 let q0:=(V.cons (V.mp 1) (V.cons q2 (V.cons q1 (ci ((a.n0:Nat):Int) (V.cons q2 V.nil)))))
 Tree.need (V.cons q2 q0 = V.cons q2 q0/\V.cons q1 V.nil = V.cons q1 V.nil/\(IntKind.i64 = IntKind.i64/\ZX .i64 (fun x=>(false,V.bool false false)) fun k=>(false,V.bool true false))/\True) (Tree.node (bif Zp (Zfp a) a.n0 then true else false) (Tree.leaf (V.int true .i64 (240:Int))) (Tree.leaf (V.int true .i64 (0:Int))))
theorem ZiQ (a:Yw):ZQ (Zn P [Zby] [gc1_lp a] true) 400 135 (.cons (.agg (Zf3 false a)) .nil) = gCheck_T a:=by kernel_rfl
def Vx (a:Yw):Int:=
  (bif bif Zp (Zfp a) a.n0 then true else false then (240:Int) else (0:Int))
theorem ZkL (a:Yw) (h0:a.n0<=1000) (h1:∀ j,(a.r0 j).n1<=1000):Zi P 135 (.cons (.agg (Zf3 false a)) .nil) (.int false IntKind.i64 (Vx a)):=
 YI (Zu hm hn (l:=[Zby]) ⟨Zhi,trivial⟩ (ls:=[gc1_lp a]) ⟨gc1_lp_ok a h0 h1,trivial⟩ true) 400 (Has.of hn Tryz.func135 rfl) (ZiQ a) (Tree.Pre.mk (by refine ⟨?_,⟨fun _=>trivial,fun _=>trivial⟩⟩; all_goals (first | exact gc1_fit a | (((repeat' (first | exact rfl | exact fun _=>⟨rfl,rfl⟩ | apply And.intro | intro _)); all_goals (try simp only [decide_eq_true_eq,decide_eq_false_iff_not] at *); all_goals omega))))) (by kernel_rfl) (by kernel_rfl)
def ZdY:Con:=Yf 135 (fun x=>(.cons (.agg (Zf3 false (Vy x.hd.inner))) .nil)) (fun x=>(.int false IntKind.i64 (Vx (Vy x.hd.inner)))) (fun x=>(Vy x.hd.inner).n0<=1000/\(fun (a:Yw)=>∀ j,(a.r0 j).n1<=1000) (Vy x.hd.inner))
theorem ZjJ:ZdY.Ok P:=Yt (fun x h=>ZkL _ h.1 h.2)
def eVcpu_T (a:Int):Tree V:=
 Tree.leaf (V.bool false (bif decide (a >= (1:Int)) then decide (a<=(16:Int)) else false))
theorem Zkx (a:Int):ZQ (Zn P [] [] true) 400 230 (.cons (.int false .i64 a) .nil) = eVcpu_T a:=by kernel_rfl
def GZ (a:Int):Bool:=
  (bif decide (a >= (1:Int)) then decide (a<=(16:Int)) else false)
theorem Zjr (a:Int)  : Zi P 230 (.cons (.int false .i64 a) .nil) (.bool false (GZ a)):=
 YI (Zu hm hn (l:=[]) trivial (ls:=[]) trivial true) 400 (Has.of hn Tryz.func230 rfl) (Zkx a) (Tree.Pre.mk True.intro) (by kernel_rfl) (by kernel_rfl)
def V6:Con:=XT 230 (.cons (.int false .i64 0) .nil) (fun x=>true) (fun x=>(.bool false (GZ x.hd.toInt))) (fun x=>(.cons (.int false .i64 x.hd.toInt) .nil)) (fun x=>True)
theorem Zeq:V6.Ok P:=WQ (fun _=>rfl) (fun x h=>True.intro) (fun x h=>Zjr _)
abbrev ZaO (a:Yl) (i:Int) (z:Int):V:=(.cons (.ptr true 0 0 0 0) (.cons (.int true .i64 0) (.cons (.int false .i64 (z)) (.cons (.rsl false 5 (Yl.n0 a) (fun j=>ZG false (a.r0 j))) (.cons (.int false .i64 (((Yl.n0 a):Nat):Int)) (.cons (.int false .i64 i) .nil))))))
abbrev Zaz (a:Yl) (i:Int) (z:Int):List Blk:=[.var (.cons (.rsl false 5 (Yl.n0 a) (fun j=>ZG false (a.r0 j))) .nil)]
def ec1_R (a:Yl) (i:Int) (z:Int):Tree Rd:=
 let q0:=(V.rsl false 5 a.n0 fun jj=>ZG false (a.2 jj))
 Tree.need ((0:Int)<=i/\i < ((a.n0:Nat):Int)) (Tree.node (bif bif bif decide ((a.2 (Int.toNat i)).f0<=z) then true else bif decide ((a.2 (Int.toNat i)).f0 > (32:Int)) then true else !GZ (a.2 (Int.toNat i)).f1 then true else false then true else false) (Tree.leaf (Ex.ret,true,V.cons (pt 0) (V.cons (V.int true .i64 (260:Int)) (ci z (V.cons q0 (ci ((a.n0:Nat):Int) (ci i V.nil))))),[Blk.var (V.cons q0 V.nil)])) (Tree.leaf (Ex.normal,true,V.cons (pt 0) (V.cons (V.int true .i64 (0:Int)) (ci (a.2 (Int.toNat i)).f0 (V.cons q0 (ci ((a.n0:Nat):Int) (ci (IntKind.wrap .i64 (i + (1:Int))) V.nil))))),[Blk.var (V.cons q0 V.nil)])))
theorem ec1_round (a:Yl):Yp P (Zn P [V6] [] true) 143 3 1 1 70 [1,2,3,10,11,12] [(0,.own)] [] (ZaO a) (Zaz a) (fun i=>(bif decide (i < ((a.n0:Nat):Int)) then false else true)) (.exit 0) (ec1_R a):=fun B i z=>by kernel_rfl
def ZhZ (a:Yl) (k:Nat) (z:Int):Int:=(fun (i:Int) (z:Int)=>(bif bif bif bif decide ((a.2 (Int.toNat i)).f0<=z) then true else bif decide ((a.2 (Int.toNat i)).f0 > (32:Int)) then true else !GZ (a.2 (Int.toNat i)).f1 then true else false then true else false then (z) else ((a.2 (Int.toNat i)).f0))) k z
def UK (a:Yl) (k:Nat):Int:=ZI 0 (ZhZ a) k
def Zey (a:Yl) (k:Nat):Bool:=(fun (i:Int) (z:Int)=>(bif bif bif bif decide ((a.2 (Int.toNat i)).f0<=z) then true else bif decide ((a.2 (Int.toNat i)).f0 > (32:Int)) then true else !GZ (a.2 (Int.toNat i)).f1 then true else false then true else false then true else false)) k (UK a k)
abbrev ec1_ets (a:Yl) (i:Int) (z:Int):V:=(.cons (V.ptr true 0 0 0 0) (.cons (V.int true .i64 (260:Int)) (.cons .junk (.cons (V.rsl false 5 a.n0 fun jj=>ZG false (a.2 jj)) (.cons (V.int false .i64 ((a.n0:Nat):Int)) (.cons .junk .nil))))))
def ec1_lp (a:Yl):Lp:=lpL 143 3 1 1 70 [1,2,3,10,11,12] [(0,.own)] [] (ZaO a) (Zaz a) (.exit 0) .ret 0 (UK a) (Zey a) (Yl.n0 a) (ec1_ets a) (Zaz a)
def Zib (a:Yl):Prop:=YP 1 [] (ZaO a) (Zaz a) 0 (ZaO a (0:Nat) 0) (Zaz a (0:Nat) 0)
theorem ec1_fit (a:Yl):Zib a:=⟨rfl,⟨rfl,trivial⟩⟩
theorem ec1_lp_ok (a:Yl) (hl:(Yl.n0 a)<=1000):(ec1_lp a).Ok P:=by
 refine Y4 (Zu hm hn (l:=[V6]) ⟨Zeq,trivial⟩ (ls:=[]) trivial true) rfl (by kernel_rfl) (ec1_round a) exN YB (fun _=>rfl) (rd:=(fun _ t y=>(t.nth 2).toInt)) (fun i z=>(cC rfl rfl)) (fun i=>(cC rfl rfl)) rfl (fun i hlt hg=>?_) (fun i z hi=>?_)
 ·have hltI:(i:Int) < (((Yl.n0 a):Nat):Int):=by omega
  refine ⟨?_,⟨fun hb0=>trivial,fun hb0=>trivial⟩⟩
  all_goals (repeat' (first | exact rfl | exact fun _=>⟨rfl,rfl⟩ | apply And.intro | intro _))
  all_goals (try simp only [decide_eq_true_eq,decide_eq_false_iff_not,Bool.not_eq_true',Bool.not_eq_false'] at *)
  all_goals (try simp (disch:=omega) only [IntWalk.i64_in])
  all_goals (first | omega)
 ·have hw:=(IntWalk.i64_in ((i:Int) + 1) ⟨by omega,by omega⟩)
  refine ⟨?_,?_⟩
  all_goals (first | exact ⟨rfl,YD (ts:=ZaO a) hw rfl,Z7 _⟩ | exact ⟨rfl,rfl,(by repeat' (first | exact Le.refl _ | exact Le.junk _ rfl | apply Le.cons)),Z7 _⟩)
abbrev ZdM (n:Nat) (r:Nat->Xz) (x:Int) (i j:Int):V:=(.cons (.rsl false 5 n (fun j=>ZG false (r j))) (.cons (.int false .i64 x) (.cons (.fn (.func 317) .nil .nil) (.cons (.int true .i64 0) (.cons (.bool true false) (.cons (.int false .i64 ((n:Nat):Int)) (.cons (.int false .i64 i) (.cons (.int false .i64 j) .nil))))))))
abbrev ZbW (n:Nat) (r:Nat->Xz) (x:Int):List Blk:=[]
def bPort_T (n:Nat) (r:Nat->Xz) (x:Int) (i j:Int):Tree (Ex×Bool×V×List Blk):=
 let q0:=V.rsl false 5 n fun j=>ZG false (r j)
 let q8:=V.fn (Fn.func (317:FuncId)) V.nil V.nil
 let q9:=vi (n:Int)
 let q10:=V.int true .i64 (0:Int)
 let q11:=vi x
 Tree.node (decide (i < j)) (Tree.need ((0:Int)<=half i j/\half i j < (n:Int)) (Tree.node (decide (IntKind.wrap .i64 ((r (Int.toNat (half i j))).f0 - x) < (0:Int))) (Tree.leaf (Ex.normal,true,V.cons q0 (V.cons q11 (V.cons q8 (V.cons q10 (V.cons (V.bool true false) (V.cons q9 (ci (IntKind.wrap .i64 (half i j + (1:Int))) (ci j V.nil))))))),[])) (Tree.leaf (Ex.normal,true,V.cons q0 (V.cons q11 (V.cons q8 (V.cons q10 (V.cons (V.bool true false) (V.cons q9 (ci i (ci (half i j) V.nil))))))),[])))) (Tree.leaf (Ex.exit 0,true,V.cons q0 (V.cons q11 (V.cons q8 (V.cons q10 (V.cons (V.bool true false) (V.cons q9 (ci i (ci j V.nil))))))),[]))
theorem ZlA (B:Base) (n:Nat) (r:Nat->Xz) (x:Int) (i j:Int):((ev (Zo P [] [316]) 400 316 (Qu P 316 3) B (Yg 0 49 [0,1,2,6,7,8,9,10] [] (ZdM n r x i j) (ZbW n r x))).bind fun x=>Tree.leaf (x.1,vwN 0 0 49 [0,1,2,6,7,8,9,10] [] x.2)) = bPort_T n r x i j:=by kernel_rfl
def ZcX (n:Nat) (r:Nat->Xz) (x:Int) (k:Nat):Bool:=(fun (h:Int)=>decide (IntKind.wrap IntKind.i64 (Xz.f0 (r (Int.toNat (h))) - x) < (0:Int))) k
def QI (n:Nat) (r:Nat->Xz) (x:Int):Nat:=Xt (ZcX n r x) n 0 n
def Zc8 (n:Nat) (r:Nat->Xz) (x:Int):Lp:=⟨316,3,fun _ s=>match vwN 0 0 49 [0,1,2,6,7,8,9,10] [] s with
 | (true,(.cons (.rsl _ 5 nt0 ft0) (.cons (.int _ .i64 tx) (.cons (.fn (.func 317) .nil .nil) (.cons (.int _ .i64 t3) (.cons (.bool _ t4) (.cons (.int _ .i64 t5) (.cons (.int _ .i64 t6) (.cons (.int _ .i64 t7) .nil)))))))),[])=>bif Nat.beq s.n 0 then .need (n = nt0/\(fun j=>ZG false (r j)) = ft0/\x = tx/\0 = t3/\false = t4/\((n:Nat):Int) = t5/\0 = t6/\((n:Nat):Int) = t7)
   (.leaf (.exit 0,Yg 0 49 [0,1,2,6,7,8,9,10] [] (ZdM n r x ((QI n r x:Nat):Int) ((QI n r x:Nat):Int)) (ZbW n r x))) else .stuck
 | _=>.stuck⟩
theorem Zlj (n:Nat) (r:Nat->Xz) (x:Int) (hl:n<=1000):(Zc8 n r x).Ok P:=by
 refine KM (by kernel_rfl) fun hin B s Q hq=>?_
 simp only [Zc8] at hq hin ⊢
 split at hq
 ·rename_i q1 nt0 ft0 q2 tx q3 t3 q4 t4 q5 t5 q6 t6 q7 t7 heq
  cases hsn:Nat.beq s.n 0
  ·rw [hsn] at hq; exact hq.elim
  ·rw [hsn] at hq
   obtain ⟨⟨rfl,rfl,rfl,rfl,rfl,rfl,rfl,rfl⟩,hq⟩:=hq
   have hsame:WE 0 0 49 [0,1,2,6,7,8,9,10] [] s (ZdM n r x 0 ((n:Nat):Int)) (ZbW n r x):=by
    refine ⟨by rw [heq],by rw [heq]; exact Le.soft rfl,by rw [heq]; exact trivial⟩
   refine Za5 (k:=400) (f:=316) (Yh hm hn (l:=[]) trivial) rfl hin (ZcX n r x) n (fun i j=>ZdM n r x i j) (ZbW n r x) Q (fun i j=>ZlA B n r x i j) (fun i j hij hjn=>?_) hq (Nat.eq_of_beq_eq_true hsn) hsame
   refine ⟨fun hc=>?_,fun hc=>?_⟩
   ·have hlt:i < j:=by have:=of_decide_eq_true hc; omega
    have hh:=ZbH (i:=i) (j:=j) (by omega)
    refine ⟨by rw [hh]; omega,fun hb=>?_,fun hb=>?_⟩
    ·rw [hh] at hb ⊢
     rw [IntWalk.i64_in ((((i + j) / 2:Nat):Int) + 1) ⟨by omega,by omega⟩]
     exact ⟨rfl,hlt,trivial,fun _=>Le.soft rfl,fun hl=>Bool.noConfusion ((show ZcX n r x ((i + j) / 2) = true from hb).symm.trans hl)⟩
    ·rw [hh] at hb ⊢
     exact ⟨rfl,hlt,trivial,fun hl=>Bool.noConfusion ((show ZcX n r x ((i + j) / 2) = false from hb).symm.trans hl),fun _=>Le.soft rfl⟩
   ·have hge:¬ (i:Int) < (j:Int):=fun h=>by rw [decide_eq_true h] at hc; cases hc
    have e:i = j:=by omega
    subst e
    exact ⟨rfl,rfl,trivial,Le.soft rfl,rfl⟩
 ·exact hq.elim
def eAt_T (an:Nat) (a:Nat->Xz) (b:Int):Tree V:=
 let q0:=((QI an a b:Nat):Int)
 Tree.need (an = an/\((fun j=>ZG false (a j)) = fun j=>ZG false (a j))/\b = b/\(0:Int) = (0:Int)/\false = false/\(an:Int) = (an:Int)/\(0:Int) = (0:Int)/\(an:Int) = (an:Int)) (Tree.need (decide (q0 < (an:Int)) = true->(0:Int)<=q0/\q0 < (an:Int)) (Tree.leaf (V.tup (ci (bif decide (q0 < (an:Int)) then q0 else q0) (V.cons (V.bool false (bif decide (q0 < (an:Int)) then IntKind.wrap .i64 ((a (Int.toNat q0)).f0 - b)==(0:Int) else false)) V.nil)))))
theorem eAt_tree (an:Nat) (a:Nat->Xz) (b:Int):ZQ (Zn P [] [Zc8 an a b] true) 400 282 (.cons (.rsl false 5 an fun j=>ZG false (a j)) (.cons (.int false .i64 b) .nil)) = eAt_T an a b:=by kernel_rfl
def J3 (an:Nat) (a:Nat->Xz) (b:Int):Int:=
  (bif decide (((QI an a b:Nat):Int) < (an:Int)) then ((QI an a b:Nat):Int) else ((QI an a b:Nat):Int))
def Zbk (an:Nat) (a:Nat->Xz) (b:Int):Bool:=
  (bif decide (((QI an a b:Nat):Int) < (an:Int)) then IntKind.wrap IntKind.i64 (Xz.f0 (a (Int.toNat ((QI an a b:Nat):Int))) - b)==(0:Int) else false)
theorem eAt_meets (an:Nat) (a:Nat->Xz) (b:Int) (h0:an<=1000):Zi P 282 (.cons (.rsl false 5 an fun j=>ZG false (a j)) (.cons (.int false .i64 b) .nil)) (.tup (.cons (.int false IntKind.i64 (J3 an a b)) (.cons (.bool false (Zbk an a b)) .nil))):=
 YI (Zu hm hn (l:=[]) trivial (ls:=[Zc8 an a b]) ⟨Zlj an a b h0,trivial⟩ true) 400 (Has.of hn Tryz.func282 rfl) (eAt_tree an a b) (Tree.Pre.mk (And.intro (by first | exact bPort_fit an a b | (((repeat' (first | exact rfl | exact fun _=>⟨rfl,rfl⟩ | apply And.intro | intro _)); all_goals (try simp only [decide_eq_true_eq,decide_eq_false_iff_not] at *); all_goals omega))) (And.intro (by first | exact bPort_fit an a b | (((repeat' (first | exact rfl | exact fun _=>⟨rfl,rfl⟩ | apply And.intro | intro _)); all_goals (try simp only [decide_eq_true_eq,decide_eq_false_iff_not] at *); all_goals omega))) True.intro))) (by kernel_rfl) (by kernel_rfl)
def c_eAt:Con:=Yf 282 (fun x=>(.cons (.rsl false 5 x.hd.ZC fun j=>ZG false ((fun j=>JE (x.hd.ZH j)) j)) (.cons (.int false .i64 x.tl.hd.toInt) .nil))) (fun x=>(.tup (.cons (.int false IntKind.i64 (J3 x.hd.ZC (fun j=>JE (x.hd.ZH j)) x.tl.hd.toInt)) (.cons (.bool false (Zbk x.hd.ZC (fun j=>JE (x.hd.ZH j)) x.tl.hd.toInt)) .nil)))) (fun x=>x.hd.ZC<=1000)
theorem ZhH:c_eAt.Ok P:=Yt (fun x h=>eAt_meets _ _ _ h)
theorem ZhA (n:Nat) (r:Nat->Xz) (b:Int):0<=J3 n r b/\J3 n r b<=n/\(Zbk n r b = true->J3 n r b < n):=by
 have h:QI n r b<=n:=Zdi _ _ _ (Nat.zero_le _)
 have e:J3 n r b = (QI n r b:Int):=by
  unfold J3; cases decide (((QI n r b:Nat):Int) < (n:Int)) <;> rfl
 rw [e]
 refine ⟨by omega,by omega,fun h1=>?_⟩
 unfold Zbk at h1
 cases hc:decide (((QI n r b:Nat):Int) < (n:Int)) with
 | true=>exact of_decide_eq_true hc
 | false=>rw [hc] at h1; cases h1
abbrev Zao (a:Yl) (i:Int) (z:Unit):V:=(.cons (.ptr true 0 0 0 0) (.cons (.int true .i64 0) (.cons (.rsl false 5 (Yl.n0 a) (fun j=>ZG false (a.r0 j))) (.cons (.int false .i64 (((Yl.n0 a):Nat):Int)) (.cons (.int false .i64 i) .nil)))))
abbrev G7 (a:Yl) (i:Int) (z:Unit):List Blk:=[.var (.cons (.rsl false 5 (Yl.n0 a) (fun j=>ZG false (a.r0 j))) .nil)]
def ec2_R (a:Yl) (i:Int) (z:Unit):Tree Rd:=
 let q2:=(V.rsl false 5 a.n0 fun jj=>ZG false (a.2 jj))
 let q0:=(Tree.leaf (Ex.ret,true,V.cons (pt 0) (V.cons (V.int true .i64 (260:Int)) (V.cons q2 (ci ((a.n0:Nat):Int) (ci i V.nil)))),[Blk.var (V.cons q2 V.nil)]))
 let q1:=(Tree.leaf (Ex.normal,true,V.cons (pt 0) (V.cons (V.int true .i64 (0:Int)) (V.cons q2 (ci ((a.n0:Nat):Int) (ci (IntKind.wrap .i64 (i + (1:Int))) V.nil)))),[Blk.var (V.cons q2 V.nil)]))
 let q3:=(a.2 (Int.toNat (J3 a.n0 (fun j=>JE (ZG false (a.2 j))) (a.2 (Int.toNat i)).f2)))
 let q4:=(ci (a.2 (Int.toNat i)).f2 V.nil)
 let q5:=(V.rsl false 5 a.n0 fun j=>ZG false (a.2 j))
 Tree.need ((0:Int)<=i/\i < ((a.n0:Nat):Int)) (Tree.node (bif (a.2 (Int.toNat i)).f2==(0:Int) then true else false) q1 (Tree.node (bif bif decide ((a.2 (Int.toNat i)).f2 < (1:Int)) then true else decide ((a.2 (Int.toNat i)).f2 > (32:Int)) then true else false) q0 (Tree.need (V.cons q5 q4 = V.cons q5 q4/\a.n0<=(1000:Nat)) (Tree.node (bif !Zbk a.n0 (fun j=>JE (ZG false (a.2 j))) (a.2 (Int.toNat i)).f2 then true else false) q0 (Tree.need ((0:Int)<=J3 a.n0 (fun j=>JE (ZG false (a.2 j))) (a.2 (Int.toNat i)).f2/\J3 a.n0 (fun j=>JE (ZG false (a.2 j))) (a.2 (Int.toNat i)).f2 < ((a.n0:Nat):Int)) (Tree.node (q3.f2 != (a.2 (Int.toNat i)).f0) q0 (Tree.node (bif q3.f0==(a.2 (Int.toNat i)).f0 then true else false) q0 q1)))))))
theorem ec2_round (a:Yl):Yp P (Zn P [V6,c_eAt] [] true) 143 10 1 1 70 [1,2,35,36,37] [(0,.own)] [] (Zao a) (G7 a) (fun i=>(bif decide (i < ((a.n0:Nat):Int)) then false else true)) (.exit 2) (ec2_R a):=fun B i z=>by kernel_rfl
def Ze3 (a:Yl) (k:Nat):Bool:=(ec2_R a k ()).early
abbrev ec2_ets (a:Yl) (i:Int) (z:Unit):V:=(.cons (V.ptr true 0 0 0 0) (.cons (V.int true .i64 (260:Int)) (.cons (V.rsl false 5 a.n0 fun jj=>ZG false (a.2 jj)) (.cons (V.int false .i64 ((a.n0:Nat):Int)) (.cons .junk .nil)))))
def ec2_lp (a:Yl):Lp:=lpL 143 10 1 1 70 [1,2,35,36,37] [(0,.own)] [] (Zao a) (G7 a) (.exit 2) .ret () (fun _=>()) (Ze3 a) (Yl.n0 a) (ec2_ets a) (G7 a)
def Zhk (a:Yl):Prop:=YP 1 [] (Zao a) (G7 a) () (Zao a (0:Nat) ()) (G7 a (0:Nat) ())
theorem ec2_fit (a:Yl):Zhk a:=⟨rfl,⟨rfl,trivial⟩⟩
theorem ec2_lp_ok (a:Yl) (hl:(Yl.n0 a)<=1000):(ec2_lp a).Ok P:=by
 refine Y4 (Zu hm hn (l:=[V6,c_eAt]) ⟨Zeq,ZhH,trivial⟩ (ls:=[]) trivial true) rfl (by kernel_rfl) (ec2_round a) exN YB (fun _=>rfl) (step:=fun _ z=>z) (rd:=(fun _ t y=>())) (fun i z=>rfl) (fun i=>rfl) rfl (fun i hlt hg=>?_) (fun i z hi=>?_)
 ·have hltI:(i:Int) < (((Yl.n0 a):Nat):Int):=by omega
  refine ⟨?_,⟨fun hb0=>trivial,fun hb0=>⟨fun hb1=>trivial,fun hb1=>⟨?_,⟨fun hb2=>trivial,fun hb2=>⟨?_,⟨fun hb3=>trivial,fun hb3=>⟨fun hb4=>trivial,fun hb4=>trivial⟩⟩⟩⟩⟩⟩⟩⟩
  all_goals (repeat' (first | exact rfl | exact fun _=>⟨rfl,rfl⟩ | apply And.intro | intro _))
  all_goals (try simp only [decide_eq_true_eq,decide_eq_false_iff_not,Bool.not_eq_true',Bool.not_eq_false'] at *)
  all_goals (try simp (disch:=omega) only [IntWalk.i64_in])
  all_goals (first | omega | exact (ZhA _ _ _).1 | exact (ZhA _ _ _).2.2 (nf ‹_›))
 ·have hw:=(IntWalk.i64_in ((i:Int) + 1) ⟨by omega,by omega⟩)
  refine ⟨?_,⟨?_,⟨?_,⟨?_,⟨?_,?_⟩⟩⟩⟩⟩
  all_goals (first | exact ⟨rfl,YD (ts:=Zao a) (a:=()) hw rfl,Z7 _⟩ | exact ⟨rfl,rfl,(by repeat' (first | exact Le.refl _ | exact Le.junk _ rfl | apply Le.cons)),Z7 _⟩)
end Go.Proofs.YtnjjailadijdlaaGreatDoor
end
