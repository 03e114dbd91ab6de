/- slices.BinarySearchFunc (303) -/
import Derived.Test.YtnjjailadijdlaaGreatDoorMAt
import Derived.Test.YtnjjailadijdlaaGreatDoorMAo
import Derived.Test.YtnjjailadijdlaaGreatDoorMAu
import Derived.Test.YtnjjailadijdlaaGreatDoorMAs
import Derived.Test.YtnjjailadijdlaaGreatDoorMAm
import Derived.Test.YtnjjailadijdlaaGreatDoorMAr
set_option maxRecDepth 100000
set_option linter.unusedVariables false
set_option linter.unusedSimpArgs false
noncomputable section
namespace Go.Proofs.YtnjjailadijdlaaGreatDoor
open Go.Fw
abbrev Zcw (n:Nat) (r:Nat->ZP) (x:Int) (i j:Int):V:=(.cons (.rsl false 4 n (fun j=>Zk false (r j))) (.cons (.int false .i64 x) (.cons (.fn (.func 304) .nil (.cons (.ptr true 0 0 0 0) .nil)) (.cons (.int true .i64 0) (.cons (.bool true false) (.cons (.int false .i64 ((n:Nat):Int)) (.cons (.int false .i64 i) (.cons (.int false .i64 j) .nil))))))))
abbrev ZcZ (n:Nat) (r:Nat->ZP) (x:Int):List Blk:=[.var (.cons (.fn (.func 207) .nil .nil) .nil)]
def bPlV_T (n:Nat) (r:Nat->ZP) (x:Int) (i j:Int):Tree (Ex×Bool×V×List Blk):=
 let q0:=V.rsl false 4 n fun j=>Zk false (r j)
 let q8:=V.fn (Fn.func (304:FuncId)) V.nil (V.cons (pt 0) V.nil)
 let q9:=[Blk.var (V.cons (V.fn (Fn.func (207:FuncId)) V.nil V.nil) V.nil)]
 let q10:=vi (n:Int)
 let q11:=V.int true .i64 (0:Int)
 let q12:=vi x
 Tree.node (decide (i < j)) (Tree.need ((0:Int)<=half i j/\half i j < (n:Int)) (Tree.node (decide (X6 (r (Int.toNat (half i j))).f0 x < (0:Int))) (Tree.leaf (Ex.normal,true,V.cons q0 (V.cons q12 (V.cons q8 (V.cons q11 (V.cons (V.bool true false) (V.cons q10 (ci (IntKind.wrap .i64 (half i j + (1:Int))) (ci j V.nil))))))),q9)) (Tree.leaf (Ex.normal,true,V.cons q0 (V.cons q12 (V.cons q8 (V.cons q11 (V.cons (V.bool true false) (V.cons q10 (ci i (ci (half i j) V.nil))))))),q9)))) (Tree.leaf (Ex.exit 0,true,V.cons q0 (V.cons q12 (V.cons q8 (V.cons q11 (V.cons (V.bool true false) (V.cons q10 (ci i (ci j V.nil))))))),q9))
theorem ZiC (B:Base) (n:Nat) (r:Nat->ZP) (x:Int) (i j:Int):((ev (Zo P [Qs] [303]) 400 303 (Qu P 303 3) B (Yg 1 49 [0,1,2,6,7,8,9,10] [(0,.own)] (Zcw n r x i j) (ZcZ n r x))).bind fun x=>Tree.leaf (x.1,vwN 1 1 49 [0,1,2,6,7,8,9,10] [(0,.own)] x.2)) = bPlV_T n r x i j:=by kernel_rfl
def Zdm (n:Nat) (r:Nat->ZP) (x:Int) (k:Nat):Bool:=(fun (h:Int)=>decide (X6 (ZP.f0 (r (Int.toNat (h)))) x < (0:Int))) k
def Q8 (n:Nat) (r:Nat->ZP) (x:Int):Nat:=Xt (Zdm n r x) n 0 n
def ZcV (n:Nat) (r:Nat->ZP) (x:Int):Lp:=⟨303,3,fun _ s=>match vwN 1 1 49 [0,1,2,6,7,8,9,10] [(0,.own)] s with
 | (true,(.cons (.rsl _ 4 nt0 ft0) (.cons (.int _ .i64 tx) (.cons (.fn (.func 304) .nil (.cons (.ptr true 0 0 0 0) .nil)) (.cons (.int _ .i64 t3) (.cons (.bool _ t4) (.cons (.int _ .i64 t5) (.cons (.int _ .i64 t6) (.cons (.int _ .i64 t7) .nil)))))))),[.var (.cons (.fn (.func 207) .nil .nil) .nil)])=>bif Nat.beq s.n 1 then .need (n = nt0/\(fun j=>Zk false (r j)) = ft0/\x = tx/\0 = t3/\false = t4/\((n:Nat):Int) = t5/\0 = t6/\((n:Nat):Int) = t7)
   (.leaf (.exit 0,Yg 1 49 [0,1,2,6,7,8,9,10] [(0,.own)] (Zcw n r x ((Q8 n r x:Nat):Int) ((Q8 n r x:Nat):Int)) (ZcZ n r x))) else .stuck
 | _=>.stuck⟩
theorem ZlX (n:Nat) (r:Nat->ZP) (x:Int) (hl:n<=1000):(ZcV n r x).Ok P:=by
 refine KM (by kernel_rfl) fun hin B s Q hq=>?_
 simp only [ZcV] at hq hin ⊢
 split at hq
 ·rename_i q1 nt0 ft0 q2 tx q3 t3 q4 t4 q5 t5 q6 t6 q7 t7 heq
  cases hsn:Nat.beq s.n 1
  ·rw [hsn] at hq; exact hq.elim
  ·rw [hsn] at hq
   obtain ⟨⟨rfl,rfl,rfl,rfl,rfl,rfl,rfl,rfl⟩,hq⟩:=hq
   have hsame:WE 1 1 49 [0,1,2,6,7,8,9,10] [(0,.own)] s (Zcw n r x 0 ((n:Nat):Int)) (ZcZ n r x):=by
    refine ⟨by rw [heq],by rw [heq]; exact Le.soft rfl,by rw [heq]; exact ⟨LeK.var (Le.soft rfl),trivial⟩⟩
   refine Za5 (k:=400) (f:=303) (Yh hm hn (l:=[Qs]) ⟨UR,trivial⟩) rfl hin (Zdm n r x) n (fun i j=>Zcw n r x i j) (ZcZ n r x) Q (fun i j=>ZiC B n r x i j) (fun i j hij hjn=>?_) hq (Nat.eq_of_beq_eq_true hsn) hsame
   refine ⟨fun hc=>?_,fun hc=>?_⟩
   ·have hlt:i < j:=by have:=of_decide_eq_true hc; omega
    have hh:=ZbH (i:=i) (j:=j) (by omega)
    refine ⟨by rw [hh]; omega,fun hb=>?_,fun hb=>?_⟩
    ·rw [hh] at hb ⊢
     rw [IntWalk.i64_in ((((i + j) / 2:Nat):Int) + 1) ⟨by omega,by omega⟩]
     exact ⟨rfl,hlt,⟨LeK.refl _,trivial⟩,fun _=>Le.soft rfl,fun hl=>Bool.noConfusion ((show Zdm n r x ((i + j) / 2) = true from hb).symm.trans hl)⟩
    ·rw [hh] at hb ⊢
     exact ⟨rfl,hlt,⟨LeK.refl _,trivial⟩,fun hl=>Bool.noConfusion ((show Zdm n r x ((i + j) / 2) = false from hb).symm.trans hl),fun _=>Le.soft rfl⟩
   ·have hge:¬ (i:Int) < (j:Int):=fun h=>by rw [decide_eq_true h] at hc; cases hc
    have e:i = j:=by omega
    subst e
    exact ⟨rfl,rfl,⟨LeK.refl _,trivial⟩,Le.soft rfl,rfl⟩
 ·exact hq.elim
def dPlV_T (an:Nat) (a:Nat->ZP) (b:Int):Tree V:=
 let q0:=((Q8 an a b:Nat):Int)
 Tree.need (an = an/\((fun j=>Zk false (a j)) = fun j=>Zk false (a j))/\b = b/\(0:Int) = (0:Int)/\false = false/\(an:Int) = (an:Int)/\(0:Int) = (0:Int)/\(an:Int) = (an:Int)) (Tree.need (decide (q0 < (an:Int)) = true->(0:Int)<=q0/\q0 < (an:Int)) (Tree.leaf (V.tup (ci (bif decide (q0 < (an:Int)) then q0 else q0) (V.cons (V.bool false (bif decide (q0 < (an:Int)) then X6 (a (Int.toNat q0)).f0 b==(0:Int) else false)) V.nil)))))
theorem dPlV_tree (an:Nat) (a:Nat->ZP) (b:Int):ZQ (Zn P [Qs] [ZcV an a b] true) 400 266 (.cons (.rsl false 4 an fun j=>Zk false (a j)) (.cons (.int false .i64 b) (.cons (.fn (.func 207) .nil .nil) .nil))) = dPlV_T an a b:=by kernel_rfl
def Qn (an:Nat) (a:Nat->ZP) (b:Int):Int:=
  (bif decide (((Q8 an a b:Nat):Int) < (an:Int)) then ((Q8 an a b:Nat):Int) else ((Q8 an a b:Nat):Int))
def JK (an:Nat) (a:Nat->ZP) (b:Int):Bool:=
  (bif decide (((Q8 an a b:Nat):Int) < (an:Int)) then X6 (a (Int.toNat ((Q8 an a b:Nat):Int))).f0 b==(0:Int) else false)
theorem Zj4 (an:Nat) (a:Nat->ZP) (b:Int) (h0:an<=1000):Zi P 266 (.cons (.rsl false 4 an fun j=>Zk false (a j)) (.cons (.int false .i64 b) (.cons (.fn (.func 207) .nil .nil) .nil))) (.tup (.cons (.int false IntKind.i64 (Qn an a b)) (.cons (.bool false (JK an a b)) .nil))):=
 YI (Zu hm hn (l:=[Qs]) ⟨UR,trivial⟩ (ls:=[ZcV an a b]) ⟨ZlX an a b h0,trivial⟩ true) 400 (Has.of hn Tryz.func266 rfl) (dPlV_tree an a b) (Tree.Pre.mk (by refine ⟨?_,⟨?_,trivial⟩⟩; all_goals (first | exact bPlV_fit an a b | (((repeat' (first | exact rfl | exact fun _=>⟨rfl,rfl⟩ | apply And.intro | intro _)); all_goals (try simp only [decide_eq_true_eq,decide_eq_false_iff_not] at *); all_goals omega))))) (by kernel_rfl) (by kernel_rfl)
def c_dPlV:Con:=Yf 266 (fun x=>(.cons (.rsl false 4 x.hd.ZC fun j=>Zk false ((fun j=>Y8 (x.hd.ZH j)) j)) (.cons (.int false .i64 x.tl.hd.toInt) (.cons (.fn (.func 207) .nil .nil) .nil)))) (fun x=>(.tup (.cons (.int false IntKind.i64 (Qn x.hd.ZC (fun j=>Y8 (x.hd.ZH j)) x.tl.hd.toInt)) (.cons (.bool false (JK x.hd.ZC (fun j=>Y8 (x.hd.ZH j)) x.tl.hd.toInt)) .nil)))) (fun x=>x.hd.ZC<=1000)
theorem c_dPlV_ok:c_dPlV.Ok P:=Yt (fun x h=>Zj4 _ _ _ h)
theorem nf2 {x y:Bool} (h:(bif (bif !x then true else y) then true else false) = false):x = true:=by cases x; cases h; rfl
theorem ZgU (n:Nat) (r:Nat->ZP) (b:Int):0<=Qn n r b/\Qn n r b<=n/\(JK n r b = true->Qn n r b < n):=by
 have h:Q8 n r b<=n:=Zdi _ _ _ (Nat.zero_le _)
 have e:Qn n r b = (Q8 n r b:Int):=by
  unfold Qn; cases decide (((Q8 n r b:Nat):Int) < (n:Int)) <;> rfl
 rw [e]
 refine ⟨by omega,by omega,fun h1=>?_⟩
 unfold JK at h1
 cases hc:decide (((Q8 n r b:Nat):Int) < (n:Int)) with
 | true=>exact of_decide_eq_true hc
 | false=>rw [hc] at h1; cases h1
def dVcpu_T (a:Zf) (b:Int):Tree V:=
 let q1:=(V.rsl false 4 a.n1 fun j=>Zk false (a.4 j))
 let q0:=(V.cons (V.rsl false 4 a.n0 fun j=>Zm false (a.2 j)) (V.cons q1 V.nil))
 Tree.need (V.cons q1 (ci b (V.cons (V.fn (Fn.func (207:Nat)) V.nil V.nil) V.nil)) = V.cons q1 (ci b (V.cons (V.fn (Fn.func (207:FuncId)) V.nil V.nil) V.nil))/\a.n1<=(1000:Nat)) (Tree.need ((!JK a.n1 (fun j=>Y8 (Zk false (a.4 j))) b) = false->V.cons (V.agg q0) V.nil = V.cons (V.agg q0) V.nil/\a.n0<=(1000:Nat)/\a.n1<=(1000:Nat)) (Tree.node (bif bif !JK a.n1 (fun j=>Y8 (Zk false (a.4 j))) b then true else Wm (ZY q0) != (0:Int) then true else false) (Tree.leaf (V.tup (V.cons (V.agg (V.cons (V.int true .i64 (0:Int)) (V.cons (V.int true .i64 (0:Int)) (V.cons (V.int true .u32 (0:Int)) (V.cons (V.int true .u32 (0:Int)) V.nil))))) (V.cons (V.bool true false) V.nil)))) (Tree.need ((0:Int)<=Qn a.n1 (fun j=>Y8 (Zk false (a.4 j))) b/\Qn a.n1 (fun j=>Y8 (Zk false (a.4 j))) b < ((a.n1:Nat):Int)) (Tree.leaf (V.tup (V.cons (V.agg (Zk false (a.4 (Int.toNat (Qn a.n1 (fun j=>Y8 (Zk false (a.4 j))) b))))) (V.cons (V.bool true true) V.nil)))))))
theorem Zkm (a:Zf) (b:Int):ZQ (Zn P [c_dPlV,JR] [] true) 400 126 (.cons (.agg (Qi false a)) (.cons (.int false .i64 b) .nil)) = dVcpu_T a b:=by kernel_rfl
def Zfv (a:Zf) (b:Int):Int:=
  (bif bif bif !JK a.n1 (fun j=>Y8 (Zk false (a.4 j))) b then true else Wm (ZY (V.cons (V.rsl false 4 a.n0 fun j=>Zm false (a.2
  j)) (V.cons (V.rsl false 4 a.n1 fun j=>Zk false (a.4 j)) V.nil))) != (0:Int) then true else false then (0:Int) else (a.4 (Int.toNat (Qn a.n1 (fun j=>
  Y8 (Zk false (a.4 j))) b))).f0)
def ZeL (a:Zf) (b:Int):Int:=
  (bif bif bif !JK a.n1 (fun j=>Y8 (Zk false (a.4 j))) b then true else Wm (ZY (V.cons (V.rsl false 4 a.n0 fun j=>Zm false (a.2
  j)) (V.cons (V.rsl false 4 a.n1 fun j=>Zk false (a.4 j)) V.nil))) != (0:Int) then true else false then (0:Int) else (a.4 (Int.toNat (Qn a.n1 (fun j=>
  Y8 (Zk false (a.4 j))) b))).f1)
def JC (a:Zf) (b:Int):Int:=
  (bif bif bif !JK a.n1 (fun j=>Y8 (Zk false (a.4 j))) b then true else Wm (ZY (V.cons (V.rsl false 4 a.n0 fun j=>Zm false (a.2
  j)) (V.cons (V.rsl false 4 a.n1 fun j=>Zk false (a.4 j)) V.nil))) != (0:Int) then true else false then (0:Int) else (a.4 (Int.toNat (Qn a.n1 (fun j=>
  Y8 (Zk false (a.4 j))) b))).f2)
def ZeS (a:Zf) (b:Int):Int:=
  (bif bif bif !JK a.n1 (fun j=>Y8 (Zk false (a.4 j))) b then true else Wm (ZY (V.cons (V.rsl false 4 a.n0 fun j=>Zm false (a.2
  j)) (V.cons (V.rsl false 4 a.n1 fun j=>Zk false (a.4 j)) V.nil))) != (0:Int) then true else false then (0:Int) else (a.4 (Int.toNat (Qn a.n1 (fun j=>
  Y8 (Zk false (a.4 j))) b))).f3)
def QD (a:Zf) (b:Int):Bool:=
  (bif bif bif !JK a.n1 (fun j=>Y8 (Zk false (a.4 j))) b then true else Wm (ZY (V.cons (V.rsl false 4 a.n0 fun j=>Zm false (a.2
  j)) (V.cons (V.rsl false 4 a.n1 fun j=>Zk false (a.4 j)) V.nil))) != (0:Int) then true else false then false else true)
theorem Zms (a:Zf) (b:Int) (h0:a.n0<=1000) (h1:a.n1<=1000):Zi P 126 (.cons (.agg (Qi false a)) (.cons (.int false .i64 b) .nil)) (.tup (.cons (.agg (.cons (.int false IntKind.i64 (Zfv a b)) (.cons (.int false IntKind.i64 (ZeL a b)) (.cons (.int false IntKind.u32 (JC a b)) (.cons (.int false IntKind.u32 (ZeS a b)) .nil))))) (.cons (.bool false (QD a b)) .nil))):=
 YI (Zu hm hn (l:=[c_dPlV,JR]) ⟨c_dPlV_ok,Zdu,trivial⟩ (ls:=[]) trivial true) 400 (Has.of hn Tryz.func126 rfl) (Zkm a b) (Tree.Pre.mk (by refine ⟨?_,⟨?_,⟨fun _=>trivial,fun _=>⟨?_,trivial⟩⟩⟩⟩; all_goals (((repeat' (first | exact rfl | exact fun _=>⟨rfl,rfl⟩ | apply And.intro | intro _)); all_goals (try simp only [decide_eq_true_eq,decide_eq_false_iff_not] at *); all_goals (first | omega | exact (ZgU _ _ _).1 | exact (ZgU _ _ _).2.2 (nf2 ‹_›)))))) (by kernel_rfl) (by kernel_rfl)
def XU:Con:=Yf 126 (fun x=>(.cons (.agg (Qi false (ZY x.hd.inner))) (.cons (.int false .i64 x.tl.hd.toInt) .nil))) (fun x=>(.tup (.cons (.agg (.cons (.int false IntKind.i64 (Zfv (ZY x.hd.inner) x.tl.hd.toInt)) (.cons (.int false IntKind.i64 (ZeL (ZY x.hd.inner) x.tl.hd.toInt)) (.cons (.int false IntKind.u32 (JC (ZY x.hd.inner) x.tl.hd.toInt)) (.cons (.int false IntKind.u32 (ZeS (ZY x.hd.inner) x.tl.hd.toInt)) .nil))))) (.cons (.bool false (QD (ZY x.hd.inner) x.tl.hd.toInt)) .nil)))) (fun x=>(ZY x.hd.inner).n0<=1000/\(ZY x.hd.inner).n1<=1000)
theorem KW:XU.Ok P:=Yt (fun x h=>Zms _ _ h.1 h.2)
abbrev Zaf (d:Zc) (i:Int) (z:Unit):V:=(.cons (.rsl false 4 (Zb.n4 (Zc.a d)) (fun j=>Zk false ((Zc.a d).r4 j))) (.cons (.fn (Fn.func (162:Nat)) .nil (.cons (.ptr true (4:Nat) (0:Nat) (0:Nat) (0:Nat)) .nil)) (.cons (.int true .i64 0) (.cons (.int false .i64 (((Zb.n4 (Zc.a d)):Nat):Int)) (.cons (.int false .i64 i) .nil)))))
abbrev ZaJ (d:Zc) (i:Int) (z:Unit):List Blk:=[.var (ZM d.a),mO d,mN d,mH d,.var (.cons (.ptr true 0 0 0 0) .nil)]
def gr2_R (d:Zc) (i:Int) (z:Unit):Tree Rd:=
 let q0:=(V.cons (V.rsl false 4 d.a.n3 fun j=>Zm false (d.a.r3 j)) (V.cons (V.rsl false 4 d.a.n4 fun j=>Zk false (d.a.r4 j)) V.nil))
 let q1:=(bif d.6 (d.a.r4 (Int.toNat i)).f0 then d.7 (d.a.r4 (Int.toNat i)).f0 else (0:Int))
 let q2:=[Blk.var (ZM d.a),mO d,mN d,mH d,Blk.var (V.cons (pt 0) V.nil)]
 let q3:=(V.fn (Fn.func (162:Nat)) V.nil (V.cons (pt 4) V.nil))
 let q4:=(V.rsl false 4 d.a.n4 fun jj=>Zk false (d.a.r4 jj))
 let q5:=(ci (d.a.r4 (Int.toNat i)).f0 V.nil)
 Tree.need (((0:Int)<=i/\i < ((d.a.n4:Nat):Int))/\(V.cons (V.agg q0) q5 = V.cons (V.agg q0) q5/\d.a.n3<=(1000:Nat)/\d.a.n4<=(1000:Nat))/\(((0:Int)<=bif d.6 (d.a.r4 (Int.toNat i)).f0 then d.7 (d.a.r4 (Int.toNat i)).f0 else (0:Int))/\q1 < ((d.a.n3:Nat):Int))/\(0:Int)<=(d.a.r3 (Int.toNat q1)).f3/\(d.a.r3 (Int.toNat q1)).f3 < ((d.a.n2:Nat):Int)) (Tree.node (bif bif IntKind.wrap .u32 ((BitVec.toNat (BitVec.ofInt (IntKind.bits .u32) (JC (ZY q0) (d.a.r4 (Int.toNat i)).f0) &&& BitVec.ofInt (IntKind.bits .u32) (d.a.r2 (Int.toNat (d.a.r3 (Int.toNat q1)).f3)).f0):Nat):Int)==(0:Int) then true else false then true else false) (Tree.leaf (Ex.ret,true,V.cons q4 (V.cons q3 (ci i (ci ((d.a.n4:Nat):Int) (ci i V.nil)))),q2)) (Tree.leaf (Ex.normal,true,V.cons q4 (V.cons q3 (V.cons (V.int true .i64 (0:Int)) (ci ((d.a.n4:Nat):Int) (ci (IntKind.wrap .i64 (i + (1:Int))) V.nil)))),q2)))
theorem gr2_round (d:Zc):Yp P (Zn P [XU] [] true) 251 2 34 34 19 [0,1,4,7,8] [(0,.own),(1,.own),(2,.own),(3,.own),(4,.own)] [] (Zaf d) (ZaJ d) (fun i=>(bif decide (i < ((d.a.n4:Nat):Int)) then false else true)) (.exit 0) (gr2_R d):=fun B i z=>by kernel_rfl
def ZeQ (d:Zc) (k:Nat):Bool:=(gr2_R d k ()).early
abbrev gr2_ets (d:Zc) (i:Int) (z:Unit):V:=(.cons (V.rsl false 4 d.a.n4 fun jj=>Zk false (d.a.r4 jj)) (.cons (V.fn (Fn.func (162:Nat)) V.nil (V.cons (V.ptr true 4 0 0 0) V.nil)) (.cons (V.int false .i64 i) (.cons (V.int false .i64 ((d.a.n4:Nat):Int)) (.cons .junk .nil)))))
def Zda (d:Zc):Lp:=lpL 251 2 34 34 19 [0,1,4,7,8] [(0,.own),(1,.own),(2,.own),(3,.own),(4,.own)] [] (Zaf d) (ZaJ d) (.exit 0) .ret () (fun _=>()) (ZeQ d) (Zb.n4 (Zc.a d)) (gr2_ets d) (ZaJ d)
def gr2_need (d:Zc):Prop:=YP 34 [] (Zaf d) (ZaJ d) () (Zaf d (0:Nat) ()) (ZaJ d (0:Nat) ())
theorem gr2_fit (d:Zc):gr2_need d:=⟨rfl,⟨rfl,⟨rfl,fun _=>⟨rfl,rfl⟩⟩,⟨rfl,fun _=>⟨rfl,rfl⟩⟩,⟨rfl,fun _=>⟨rfl,rfl⟩⟩,rfl,trivial⟩⟩
theorem gr2_lp_ok (d:Zc) (hl:d.a.n4<=1000) (hl3:d.a.n3<=1000) (hH:0 < d.a.n4->∀ j:Int,0<=(bif d.hh j then d.hg j else 0)/\(bif d.hh j then d.hg j else 0) < d.a.n3) (hP:0 < d.a.n4->∀ j:Int,0<=(d.a.r3 (bif d.hh j then d.hg j else 0).toNat).f3/\(d.a.r3 (bif d.hh j then d.hg j else 0).toNat).f3 < d.a.n2):(Zda d).Ok P:=by
 refine Y4 (Zu hm hn (l:=[XU]) ⟨KW,trivial⟩ (ls:=[]) trivial true) rfl (by kernel_rfl) (gr2_round d) exN YB (fun _=>rfl) (step:=fun _ z=>z) (rd:=(fun _ t y=>())) (fun i z=>rfl) (fun i=>rfl) rfl (fun i hlt hg=>?_) (fun i z hi=>?_)
 ·have hltI:(i:Int) < (((Zb.n4 (Zc.a d)):Nat):Int):=by omega
  refine ⟨?_,⟨fun hb0=>trivial,fun hb0=>trivial⟩⟩
  all_goals (repeat' (first | exact rfl | exact fun _=>⟨rfl,rfl⟩ | apply And.intro | intro _))
  all_goals (try simp only [decide_eq_true_eq,decide_eq_false_iff_not,Bool.not_eq_true',Bool.not_eq_false'] at *)
  all_goals (try simp (disch:=omega) only [IntWalk.i64_in])
  all_goals (first | omega | exact (hH (by omega) _).1 | exact (hH (by omega) _).2 | exact (hP (by omega) _).1 | exact (hP (by omega) _).2)
 ·have hw:=(IntWalk.i64_in ((i:Int) + 1) ⟨by omega,by omega⟩)
  refine ⟨?_,?_⟩
  all_goals (first | exact ⟨rfl,YD (ts:=Zaf d) (a:=()) hw rfl,Z7 _⟩ | exact ⟨rfl,rfl,(by repeat' (first | exact Le.refl _ | exact Le.junk _ rfl | apply Le.cons)),Z7 _⟩)
def Zls (d:Zc):Tree (V×List Blk):=
 let q8:=(V.rsl false 2 d.a.n1 fun j=>Yk false (d.a.r1 j))
 let q7:=(V.rsl false 1 d.a.n2 fun j=>V.cons (V.int false .u32 (d.a.r2 j).f0) V.nil)
 let q11:=(V.rsl false 4 d.a.n3 fun j=>Zm false (d.a.r3 j))
 let q9:=(V.rsl false 4 d.a.n4 fun j=>Zk false (d.a.r4 j))
 let q0:=(V.cons q8 (V.cons q7 (V.cons q11 (V.cons q9 (V.cons (V.rsl false 2 d.a.n5 fun j=>ZE false (d.a.r5 j)) (V.cons (V.rsl false 11 d.a.n6 fun j=>ZT false (d.a.r6 j)) (V.cons (V.rsl false 2 d.a.n7 fun j=>ZN false (d.a.r7 j)) (V.cons (V.rsl false 5 d.a.n8 fun j=>ZG false (d.a.r8 j)) (ci d.a.f9 (V.cons (V.rsl false 2 d.a.n10 fun j=>Zr false (d.a.r10 j)) (V.cons (V.rsl false 3 d.a.n11 fun j=>Zl false (d.a.r11 j)) (V.cons (V.rsl false 2 d.a.n12 fun j=>Yq false (d.a.r12 j)) (V.cons (V.int false .u64 d.a.f13) (V.cons (V.mp 1) (V.cons (V.mp 2) (V.cons (V.mp 3) V.nil))))))))))))))))
 let q1:=[Blk.var (ZM d.a),Blk.Ze (MK.int .i64) false (fun k=>(d.2 (Za k),vi (d.3 (Za k)))) none,Blk.Ze (MK.int .i64) false (fun k=>(d.4 (Za k),vi (d.5 (Za k)))) none,Blk.Ze (MK.int .i64) false (fun k=>(d.6 (Za k),vi (d.7 (Za k)))) none]
 let q12:=(vi (0:Int))
 let q2:=(V.cons (V.fn (Fn.func (162:Nat)) V.nil (V.cons (V.ptr false 4 0 0 0) V.nil)) (V.cons q12 (ci ((d.a.n4:Nat):Int) (V.cons q12 V.nil))))
 let q3:=(V.cons (V.bool false false) (V.cons q11 (ci ((d.a.n3:Nat):Int) (V.cons q12 V.nil))))
 let q4:=(IntKind.i64 = IntKind.i64/\ZX .i64 (fun x=>(d.2 (Za x),vi (d.3 (Za x)))) fun k=>(d.2 (Za k),vi (d.3 (Za k))))
 let q5:=(IntKind.i64 = IntKind.i64/\ZX .i64 (fun x=>(d.4 (Za x),vi (d.5 (Za x)))) fun k=>(d.4 (Za k),vi (d.5 (Za k))))
 let q6:=(IntKind.i64 = IntKind.i64/\ZX .i64 (fun x=>(d.6 (Za x),vi (d.7 (Za x)))) fun k=>(d.6 (Za k),vi (d.7 (Za k))))
 let q10:=(vi d.a.f0)
 Tree.need ((V.cons (V.agg (V.cons q7 V.nil)) V.nil = V.cons (V.agg (V.cons q7 V.nil)) V.nil/\d.a.n2<=(5:Nat))/\V.cons (V.agg (V.cons q8 V.nil)) V.nil = V.cons (V.agg (V.cons q8 V.nil)) V.nil/\d.a.n1<=(9:Nat)) (Tree.node (bif bif V.toInt (ZdO (Q5 (V.cons (V.rsl false 1 d.a.n2 fun j=>V.soft._f (V.cons (V.int false .u32 (d.a.r2 j).f0) V.nil) ⟨⟨V.soft._f (V.int false .u32 (d.a.r2 j).f0) PUnit.unit,PUnit.unit⟩,V.soft._f V.nil PUnit.unit,PUnit.unit⟩) V.nil))) != V.toInt (Zdw (Jj (V.cons (V.rsl false 2 d.a.n1 fun j=>V.soft._f (Yk false (d.a.r1 j)) ⟨⟨V.soft._f (vi (d.a.r1 j).f0) PUnit.unit,PUnit.unit⟩,V.soft._f (ci (d.a.r1 j).f1 V.nil) ⟨⟨V.soft._f (vi (d.a.r1 j).f1) PUnit.unit,PUnit.unit⟩,V.soft._f V.nil PUnit.unit,PUnit.unit⟩,⟨V.soft._f (vi (d.a.r1 j).f1) PUnit.unit,PUnit.unit⟩,V.soft._f V.nil PUnit.unit,PUnit.unit⟩) V.nil))) then true else ((d.a.n7:Nat):Int) != ((d.a.n3:Nat):Int) then true else false) (Tree.leaf (V.bool true false,q1)) (Tree.need (d.a.n7 = d.a.n3/\V.cons (V.ptr false 4 0 0 0) q3 = V.cons (V.ptr false 4 0 0 0) q3/\V.cons q10 q0 = V.cons q10 q0/\q4/\q5/\q6/\V.cons (V.ptr false 0 0 0 0) V.nil = V.cons (V.ptr false 0 0 0 0) V.nil/\True) (Tree.node (bif Zp (Jt d) d.a.n3 then true else false) (Tree.leaf (V.bool true false,q1)) (Tree.need (Zp (Jt d) d.a.n3 = false/\V.cons q9 q2 = V.cons q9 q2/\V.cons q10 q0 = V.cons q10 q0/\q4/\q5/\q6/\V.cons (V.ptr false 0 0 0 0) V.nil = V.cons (V.ptr false 0 0 0 0) V.nil/\True) (Tree.node (bif Zp (ZeQ d) d.a.n4 then true else false) (Tree.leaf (V.bool false false,q1)) (Tree.leaf (V.bool true true,q1)))))))
theorem Zkl (d:Zc):evH (Zn P [Gw,Gp,Gm,XU] [(WC (d.a.n7 = d.a.n3) (ZcI d)),(WC (Zp (Jt d) d.a.n3 = false) (Zda d))] true) 400 63 (.cons (.ptr true 0 0 0 0) .nil) (ZV d) = Zls d:=by kernel_rfl
def Vq (d:Zc):Bool:=
  (bif bif bif V.toInt (ZdO (Q5 (V.cons (V.rsl false 1 d.a.n2 fun j=>V.soft._f (V.cons (V.int false .u32 (d.a.r2 j).f0) V.nil) ⟨⟨V.soft._f (V.int false .u32 (d.a.r2
  j).f0) PUnit.unit,PUnit.unit⟩,V.soft._f V.nil PUnit.unit,PUnit.unit⟩) V.nil))) != V.toInt (Zdw (Jj (V.cons (V.rsl false 2 d.a.n1 fun j=>V.soft._f (Yk
  false (d.a.r1 j)) ⟨⟨V.soft._f (V.int false .i64 (d.a.r1 j).f0) PUnit.unit,PUnit.unit⟩,V.soft._f (V.cons (V.int false .i64 (d.a.r1 j).f1) V.nil) ⟨⟨V.soft._f (V.int false .i64
  (d.a.r1 j).f1) PUnit.unit,PUnit.unit⟩,V.soft._f V.nil PUnit.unit,PUnit.unit⟩,⟨V.soft._f (V.int false .i64 (d.a.r1 j).f1) PUnit.unit,PUnit.unit⟩,V.soft._f V.nil
  PUnit.unit,PUnit.unit⟩) V.nil))) then true else ((d.a.n7:Nat):Int) != ((d.a.n3:Nat):Int) then true else false then (false) else (bif bif Zp (Jt d) d.a.n3 then
  true else false then (false) else (bif bif Zp (ZeQ d) d.a.n4 then true else false then (false) else (true))))
theorem ZlL (d:Zc) (h0:d.a.n1<=9) (h1:d.a.n2<=5) (h2:d.a.n3<=1000) (h3:d.a.n4<=1000) (h4:0 < d.a.n4->∀ j:Int,0<=(bif d.hh j then d.hg j else 0)/\(bif d.hh j then d.hg j else 0) < d.a.n3) (h5:Zp (Jt d) d.a.n3 = false->0 < d.a.n4->∀ j:Int,0<=(d.a.r3 (bif d.hh j then d.hg j else 0).toNat).f3/\(d.a.r3 (bif d.hh j then d.hg j else 0).toNat).f3 < d.a.n2):Xb P 63 (.cons (.ptr true 0 0 0 0) .nil) (ZV d) (.leaf (.bool false (Vq d),ZV d)):=by
 refine VO (E:=(Zn P [Gw,Gp,Gm,XU] [(WC (d.a.n7 = d.a.n3) (ZcI d)),(WC (Zp (Jt d) d.a.n3 = false) (Zda d))] true)) (Zu hm hn (l:=[Gw,Gp,Gm,XU]) ⟨Zhx,Zgd,Zir,KW,trivial⟩ (ls:=[(WC (d.a.n7 = d.a.n3) (ZcI d)),(WC (Zp (Jt d) d.a.n3 = false) (Zda d))]) ⟨Zan fun hg=>gr1_lp_ok d h2 h0 h1 hg,Zan fun hg=>gr2_lp_ok d h3 h2 h4 (h5 hg),trivial⟩ true) (Zkl d) ((cC rfl (cC rfl (cC rfl rfl)))) ⟨⟨rfl,rfl⟩,⟨⟨rfl,rfl⟩,⟨⟨rfl,rfl⟩,⟨rfl,rfl⟩⟩⟩⟩ ?_
 refine ⟨?_,⟨fun hb0=>trivial,fun hb0=>⟨?_,⟨fun hb1=>trivial,fun hb1=>⟨?_,⟨fun hb2=>trivial,fun hb2=>trivial⟩⟩⟩⟩⟩⟩
 all_goals ((repeat' (first | exact gr1_fit d | exact gr2_fit d | exact rfl | exact fun _=>⟨rfl,rfl⟩ | apply And.intro | intro _)); all_goals (try simp only [decide_eq_true_eq,decide_eq_false_iff_not] at *); all_goals (first | omega | exact (by have h:=nf3 hb0; omega) | exact nf4 hb1 | exact hb1 | exact gr1_fit d | exact gr2_fit d))
def UZ:HK:=fun args bl=>match args,bl with
 | (.cons (.ptr true 0 0 0 0) .nil),[.var c,.Ze (.int .i64) _ fo _,.Ze (.int .i64) _ fn _,.Ze (.int .i64) _ fh _]=>some (c.WT fun c=>.need (KP c fo fn fh/\(fun (d:Zc)=>d.a.n1<=9) (ZF c fo fn fh)/\(fun (d:Zc)=>d.a.n2<=5) (ZF c fo fn fh)/\(fun (d:Zc)=>d.a.n3<=1000) (ZF c fo fn fh)/\(fun (d:Zc)=>d.a.n4<=1000) (ZF c fo fn fh)/\(fun (d:Zc)=>0 < d.a.n4->∀ j:Int,0<=(bif d.hh j then d.hg j else 0)/\(bif d.hh j then d.hg j else 0) < d.a.n3) (ZF c fo fn fh)/\(fun (d:Zc)=>Zp (Jt d) d.a.n3 = false->0 < d.a.n4->∀ j:Int,0<=(d.a.r3 (bif d.hh j then d.hg j else 0).toNat).f3/\(d.a.r3 (bif d.hh j then d.hg j else 0).toNat).f3 < d.a.n2) (ZF c fo fn fh)) (.leaf (.bool false (Vq (ZF c fo fn fh)),ZV (ZF c fo fn fh))))
 | _,_=>none
theorem Zma:Xj P 63 UZ:=by
 intro args bl T hT
 unfold UZ at hT
 split at hT
 ·rename_i c q1 fo q2 q3 fn q4 q5 fh q6
  injection hT with hT
  subst hT
  intro base mm F w xs Q KK h1 h2 hq hk
  simp only [V.Qw] at hq
  obtain ⟨hp,hq⟩:=hq
  exact Xb.le (bl:=[.var c,.Ze (.int .i64) q1 fo q2,.Ze (.int .i64) q3 fn q4,.Ze (.int .i64) q5 fh q6]) (ZlL (ZF c fo fn fh) hp.2.1 hp.2.2.1 hp.2.2.2.1 hp.2.2.2.2.1 hp.2.2.2.2.2.1 hp.2.2.2.2.2.2) rfl (fun b=>Vr hp.1 b) base mm F w xs Q KK h1 h2 hq hk
 ·cases hT
abbrev ZbE (d:Zc) (i:Int) (z:(Int->Bool)×(Int->Bool)):V:=(.cons (.rsl false 4 (Zb.n4 (Zc.a d)) (fun j=>Zk false ((Zc.a d).r4 j))) (.cons (.fn (Fn.func (164:Nat)) .nil (.cons (.ptr true (6:Nat) (0:Nat) (0:Nat) (0:Nat)) (.cons (.ptr true (4:Nat) (0:Nat) (0:Nat) (0:Nat)) .nil))) (.cons (.bool true false) (.cons (.rsl false 11 (Zb.n6 (Zc.a d)) (fun j=>ZT false ((Zc.a d).r6 j))) (.cons (.int false .i64 (((Zb.n6 (Zc.a d)):Nat):Int)) (.cons (.int false .i64 i) .nil))))))
abbrev Zcc (d:Zc) (i:Int) (z:(Int->Bool)×(Int->Bool)):List Blk:=[.var (ZM d.a),mO d,mN d,mH d,.var (.cons (.ptr true 0 0 0 0) .nil),.Ze (.int .u64) false (fun x=>(z.1 (Za x),.bool false (z.2 (Za x)))) none,.var (.cons (.mp 5) .nil)]
def ow1_R (d:Zc) (i:Int) (z:(Int->Bool)×(Int->Bool)):Tree Rd:=
 let q5:=(V.rsl false 4 d.a.n4 fun jj=>Zk false (d.a.r4 jj))
 let q3:=(V.fn (Fn.func (164:Nat)) V.nil (V.cons (pt 6) (V.cons (pt 4) V.nil)))
 let q6:=(V.rsl false 11 d.a.n6 fun jj=>ZT false (d.a.r6 jj))
 let q2:=(Value.int .u64 (d.a.r6 (Int.toNat i)).f8)
 let q1:=[Blk.var (ZM d.a),mO d,mN d,mH d,Blk.var (V.cons (pt 0) V.nil),Blk.Ze (MK.int .u64) false (fun k=>(bif Zj k q2 then true else z.1 (Za k),V.bool false (bif Zj k q2 then true else z.2 (Za k)))) none,Blk.var (V.cons (V.mp 5) V.nil)]
 let q0:=(Tree.leaf (Ex.ret,true,V.cons q5 (V.cons q3 (V.cons (V.bool true false) (V.cons q6 (ci ((d.a.n6:Nat):Int) (ci i V.nil))))),q1))
 let q4:=(bif d.6 (d.a.r4 (Int.toNat i)).f0 then d.7 (d.a.r4 (Int.toNat i)).f0 else (0:Int))
 Tree.need ((0:Int)<=i/\i < ((d.a.n6:Nat):Int)) (Tree.need ((0:Int)<=i/\i < ((d.a.n4:Nat):Int)) (Tree.node ((d.a.r6 (Int.toNat i)).f0==(d.a.r4 (Int.toNat i)).f0) (Tree.node ((bif bif bif !bif decide ((d.a.r6 (Int.toNat i)).f1 >= (0:Int)) then bif decide ((d.a.r6 (Int.toNat i)).f1<=(3:Int)) then bif decide ((d.a.r6 (Int.toNat i)).f2 >= (0:Int)) then bif decide ((d.a.r6 (Int.toNat i)).f2<=(15:Int)) then bif decide ((d.a.r6 (Int.toNat i)).f4 >= (0:Int)) then decide ((d.a.r6 (Int.toNat i)).f4<=(1125899906842624:Int)) else false else false else false else false else false then true else !(bif (d.a.r6 (Int.toNat i)).f3 != (0:Int) then true else (d.a.r6 (Int.toNat i)).f4 != (0:Int))==((d.a.r6 (Int.toNat i)).f1==(3:Int)) then true else false then (270:Int) else (0:Int))==(0:Int)) (Tree.node ((bif bif bif bif bif !bif decide ((d.a.r6 (Int.toNat i)).f7 >= (1:Int)) then decide ((d.a.r6 (Int.toNat i)).f7<=(65535:Int)) else false then true else decide ((d.a.r6 (Int.toNat i)).f5 >= (68719476736:Int)) then true else false then true else false then true else false then (150:Int) else (0:Int))==(0:Int)) (Tree.node (!bif z.1 (Za q2) then z.2 (Za q2) else false) (Tree.node (decide ((d.a.r6 (Int.toNat i)).f8<=d.a.f13)) (Tree.need (((0:Int)<=bif d.6 (d.a.r4 (Int.toNat i)).f0 then d.7 (d.a.r4 (Int.toNat i)).f0 else (0:Int))/\q4 < ((d.a.n3:Nat):Int)) (Tree.node ((d.a.r6 (Int.toNat i)).f7==IntKind.wrap .u64 (d.a.r3 (Int.toNat q4)).f1) (Tree.node (decide ((d.a.r6 (Int.toNat i)).f9 >= (0:Int))) (Tree.node (bif !bif decide (IntKind.wrap .i64 ((d.a.r6 (Int.toNat i)).f9 - (1000000:Int))<=d.a.f0) then bif decide ((d.a.r6 (Int.toNat i)).f10 >= (0:Int)) then decide ((d.a.r6 (Int.toNat i)).f10<=d.a.f0) else false else false then true else false) q0 (Tree.leaf (Ex.normal,true,V.cons q5 (V.cons q3 (V.cons (V.bool true false) (V.cons q6 (ci ((d.a.n6:Nat):Int) (ci (IntKind.wrap .i64 (i + (1:Int))) V.nil))))),q1))) q0) q0)) q0) q0) q0) q0) q0))
theorem ow1_round (d:Zc):Yp P (Zn P [GR,Uy] [] true) 163 4 21 21 32 [1,2,6,15,16,17] [(0,.own),(1,.own),(2,.own),(3,.own),(4,.own),(5,.own),(6,.own)] [] (ZbE d) (Zcc d) (fun i=>(bif decide (i < ((d.a.n6:Nat):Int)) then false else true)) (.exit 0) (ow1_R d):=fun B i z=>by kernel_rfl
def ow1_step (d:Zc) (k:Nat) (z:(Int->Bool)×(Int->Bool)):(Int->Bool)×(Int->Bool):=(fun (i:Int) (z:(Int->Bool)×(Int->Bool))=>(bif (d.a.r6 (Int.toNat i)).f0==(d.a.r4 (Int.toNat i)).f0 then (bif (bif bif bif !bif decide ((d.a.r6 (Int.toNat i)).f1 >= (0:Int)) then bif decide ((d.a.r6 (Int.toNat i)).f1<=(3:Int)) then bif decide ((d.a.r6 (Int.toNat i)).f2 >= (0:Int)) then bif decide ((d.a.r6 (Int.toNat i)).f2<=(15:Int)) then bif decide ((d.a.r6 (Int.toNat i)).f4 >= (0:Int)) then decide ((d.a.r6 (Int.toNat i)).f4<=(1125899906842624:Int)) else false else false else false else false else false then true else !(bif (d.a.r6 (Int.toNat i)).f3 != (0:Int) then true else (d.a.r6 (Int.toNat i)).f4 != (0:Int))==((d.a.r6 (Int.toNat i)).f1==(3:Int)) then true else false then (270:Int) else (0:Int))==(0:Int) then (bif (bif bif bif bif bif !bif decide ((d.a.r6 (Int.toNat i)).f7 >= (1:Int)) then decide ((d.a.r6 (Int.toNat i)).f7<=(65535:Int)) else false then true else decide ((d.a.r6 (Int.toNat i)).f5 >= (68719476736:Int)) then true else false then true else false then true else false then (150:Int) else (0:Int))==(0:Int) then (bif !bif z.1 (Za (Value.int .u64 (d.a.r6 (Int.toNat i)).f8)) then z.2 (Za (Value.int .u64 (d.a.r6 (Int.toNat i)).f8)) else false then (bif decide ((d.a.r6 (Int.toNat i)).f8<=d.a.f13) then (bif (d.a.r6 (Int.toNat i)).f7==IntKind.wrap .u64 (d.a.r3 (Int.toNat (bif d.6 (d.a.r4 (Int.toNat i)).f0 then d.7 (d.a.r4 (Int.toNat i)).f0 else (0:Int)))).f1 then (bif decide ((d.a.r6 (Int.toNat i)).f9 >= (0:Int)) then (bif bif !bif decide (IntKind.wrap .i64 ((d.a.r6 (Int.toNat i)).f9 - (1000000:Int))<=d.a.f0) then bif decide ((d.a.r6 (Int.toNat i)).f10 >= (0:Int)) then decide ((d.a.r6 (Int.toNat i)).f10<=d.a.f0) else false else false then true else false then ((z.1,z.2)) else (((fun (j_:Int)=>bif j_==(d.a.r6 (Int.toNat i)).f8 then true else z.1 (j_)),(fun (j_:Int)=>bif j_==(d.a.r6 (Int.toNat i)).f8 then true else z.2 (j_))))) else ((z.1,z.2))) else ((z.1,z.2))) else ((z.1,z.2))) else ((z.1,z.2))) else ((z.1,z.2))) else ((z.1,z.2))) else ((z.1,z.2)))) k z
def ow1_acc (d:Zc) (k:Nat):(Int->Bool)×(Int->Bool):=ZI ((fun j=>bif j==0 then true else false),(fun j=>bif j==0 then true else false)) (ow1_step d) k
def ZcE (d:Zc) (k:Nat):Bool:=(fun (i:Int) (z:(Int->Bool)×(Int->Bool))=>(bif (d.a.r6 (Int.toNat i)).f0==(d.a.r4 (Int.toNat i)).f0 then (bif (bif bif bif !bif decide ((d.a.r6 (Int.toNat i)).f1 >= (0:Int)) then bif decide ((d.a.r6 (Int.toNat i)).f1<=(3:Int)) then bif decide ((d.a.r6 (Int.toNat i)).f2 >= (0:Int)) then bif decide ((d.a.r6 (Int.toNat i)).f2<=(15:Int)) then bif decide ((d.a.r6 (Int.toNat i)).f4 >= (0:Int)) then decide ((d.a.r6 (Int.toNat i)).f4<=(1125899906842624:Int)) else false else false else false else false else false then true else !(bif (d.a.r6 (Int.toNat i)).f3 != (0:Int) then true else (d.a.r6 (Int.toNat i)).f4 != (0:Int))==((d.a.r6 (Int.toNat i)).f1==(3:Int)) then true else false then (270:Int) else (0:Int))==(0:Int) then (bif (bif bif bif bif bif !bif decide ((d.a.r6 (Int.toNat i)).f7 >= (1:Int)) then decide ((d.a.r6 (Int.toNat i)).f7<=(65535:Int)) else false then true else decide ((d.a.r6 (Int.toNat i)).f5 >= (68719476736:Int)) then true else false then true else false then true else false then (150:Int) else (0:Int))==(0:Int) then (bif !bif z.1 (Za (Value.int .u64 (d.a.r6 (Int.toNat i)).f8)) then z.2 (Za (Value.int .u64 (d.a.r6 (Int.toNat i)).f8)) else false then (bif decide ((d.a.r6 (Int.toNat i)).f8<=d.a.f13) then (bif (d.a.r6 (Int.toNat i)).f7==IntKind.wrap .u64 (d.a.r3 (Int.toNat (bif d.6 (d.a.r4 (Int.toNat i)).f0 then d.7 (d.a.r4 (Int.toNat i)).f0 else (0:Int)))).f1 then (bif decide ((d.a.r6 (Int.toNat i)).f9 >= (0:Int)) then (bif bif !bif decide (IntKind.wrap .i64 ((d.a.r6 (Int.toNat i)).f9 - (1000000:Int))<=d.a.f0) then bif decide ((d.a.r6 (Int.toNat i)).f10 >= (0:Int)) then decide ((d.a.r6 (Int.toNat i)).f10<=d.a.f0) else false else false then true else false then true else false) else true) else true) else true) else true) else true) else true) else true)) k (ow1_acc d k)
abbrev ow1_ets (d:Zc) (i:Int) (z:(Int->Bool)×(Int->Bool)):V:=(.cons (V.rsl false 4 d.a.n4 fun jj=>Zk false (d.a.r4 jj)) (.cons (V.fn (Fn.func (164:Nat)) V.nil (V.cons (V.ptr true 6 0 0 0) (V.cons (V.ptr true 4 0 0 0) V.nil))) (.cons (V.bool true false) (.cons (V.rsl false 11 d.a.n6 fun jj=>ZT false (d.a.r6 jj)) (.cons (V.int false .i64 ((d.a.n6:Nat):Int)) (.cons .junk .nil))))))
abbrev ow1_eys (d:Zc) (i:Int) (z:(Int->Bool)×(Int->Bool)):List Blk:=[.var (ZM d.a),mO d,mN d,mH d,.var (.cons (.ptr true 0 0 0 0) .nil),.any,.var (.cons (.mp 5) .nil)]
def Zdk (d:Zc):Lp:=lpL 163 4 21 21 32 [1,2,6,15,16,17] [(0,.own),(1,.own),(2,.own),(3,.own),(4,.own),(5,.own),(6,.own)] [] (ZbE d) (Zcc d) (.exit 0) .ret ((fun j=>bif j==0 then true else false),(fun j=>bif j==0 then true else false)) (ow1_acc d) (ZcE d) (Zb.n6 d.a) (ow1_ets d) (ow1_eys d)
def ow1_need (d:Zc):Prop:=YP 21 [] (ZbE d) (Zcc d) ((fun j=>bif j==0 then true else false),(fun j=>bif j==0 then true else false)) (ZbE d (0:Nat) ((fun j=>bif j==0 then true else false),(fun j=>bif j==0 then true else false))) (Zcc d (0:Nat) ((fun j=>bif j==0 then true else false),(fun j=>bif j==0 then true else false)))
theorem ow1_fit (d:Zc):ow1_need d:=⟨rfl,⟨rfl,⟨rfl,fun _=>⟨rfl,rfl⟩⟩,⟨rfl,fun _=>⟨rfl,rfl⟩⟩,⟨rfl,fun _=>⟨rfl,rfl⟩⟩,rfl,⟨rfl,fun _=>⟨rfl,rfl⟩⟩,rfl,trivial⟩⟩
theorem ow1_lp_ok (d:Zc) (hl:d.a.n4<=1000) (hl3:d.a.n3<=1000) (hl6:d.a.n6 = d.a.n4) (hH:0 < d.a.n4->∀ j:Int,0<=(bif d.hh j then d.hg j else 0)/\(bif d.hh j then d.hg j else 0) < d.a.n3):(Zdk d).Ok P:=by
 refine Y4 (Zu hm hn (l:=[GR,Uy]) ⟨ZgX,Zhe,trivial⟩ (ls:=[]) trivial true) rfl (by kernel_rfl) (ow1_round d) exN YB (fun _=>rfl) (rd:=(fun _ t y=>((fun j=>(y.getD 5 .none).hasK .u64 j),(fun j=>(y.getD 5 .none).getB .u64 j)))) (fun i z=>(cC (cC (cC (cC (cC (cC (cC (cC rfl rfl) rfl) rfl) rfl) rfl) rfl) rfl) rfl)) (fun i=>(cC (cC (cC (cC (cC (cC (cC (cC rfl rfl) rfl) rfl) rfl) rfl) rfl) rfl) rfl)) rfl (fun i hlt hg=>?_) (fun i z hi=>?_)
 ·have hltI:(i:Int) < (((Zb.n6 d.a):Nat):Int):=by omega
  refine ⟨?_,⟨?_,⟨fun hb0=>⟨fun hb1=>⟨fun hb2=>⟨fun hb3=>⟨fun hb4=>⟨?_,⟨fun hb5=>⟨fun hb6=>⟨fun hb7=>trivial,fun hb7=>trivial⟩,fun hb6=>trivial⟩,fun hb5=>trivial⟩⟩,fun hb4=>trivial⟩,fun hb3=>trivial⟩,fun hb2=>trivial⟩,fun hb1=>trivial⟩,fun hb0=>trivial⟩⟩⟩
  all_goals (repeat' (first | exact rfl | exact fun _=>⟨rfl,rfl⟩ | apply And.intro | intro _))
  all_goals (try simp only [decide_eq_true_eq,decide_eq_false_iff_not,Bool.not_eq_true',Bool.not_eq_false'] at *)
  all_goals (try simp (disch:=omega) only [IntWalk.i64_in])
  all_goals (first | omega | exact (hH (by omega) _).1 | exact (hH (by omega) _).2)
 ·have hw:=(IntWalk.i64_in ((i:Int) + 1) ⟨by omega,by omega⟩)
  refine ⟨⟨⟨⟨⟨⟨⟨⟨?_,?_⟩,?_⟩,?_⟩,?_⟩,?_⟩,?_⟩,?_⟩,?_⟩
  all_goals (first | exact ⟨rfl,YD (ts:=ZbE d) hw rfl,⟨LeK.refl _,LeK.refl _,LeK.refl _,LeK.refl _,LeK.refl _,Y6 fun a=>⟨rfl,Le.soft rfl⟩,LeK.refl _,trivial⟩⟩ | exact ⟨rfl,rfl,(by repeat' (first | exact Le.refl _ | exact Le.junk _ rfl | apply Le.cons)),⟨LeK.refl _,LeK.refl _,LeK.refl _,LeK.refl _,LeK.refl _,LeK.any _,LeK.refl _,trivial⟩⟩)
def vOwned_T (d:Zc):Tree (V×List Blk):=
 let q3:=(V.rsl false 4 d.a.n4 fun j=>Zk false (d.a.r4 j))
 let q4:=(V.rsl false 11 d.a.n6 fun j=>ZT false (d.a.r6 j))
 let q0:=(V.cons (V.rsl false 2 d.a.n1 fun j=>Yk false (d.a.r1 j)) (V.cons (V.rsl false 1 d.a.n2 fun j=>V.cons (V.int false .u32 (d.a.r2 j).f0) V.nil) (V.cons (V.rsl false 4 d.a.n3 fun j=>Zm false (d.a.r3 j)) (V.cons q3 (V.cons (V.rsl false 2 d.a.n5 fun j=>ZE false (d.a.r5 j)) (V.cons q4 (V.cons (V.rsl false 2 d.a.n7 fun j=>ZN false (d.a.r7 j)) (V.cons (V.rsl false 5 d.a.n8 fun j=>ZG false (d.a.r8 j)) (ci d.a.f9 (V.cons (V.rsl false 2 d.a.n10 fun j=>Zr false (d.a.r10 j)) (V.cons (V.rsl false 3 d.a.n11 fun j=>Zl false (d.a.r11 j)) (V.cons (V.rsl false 2 d.a.n12 fun j=>Yq false (d.a.r12 j)) (V.cons (V.int false .u64 d.a.f13) (V.cons (V.mp 1) (V.cons (V.mp 2) (V.cons (V.mp 3) V.nil))))))))))))))))
 let q1:=[Blk.var (ZM d.a),Blk.Ze (MK.int .i64) false (fun k=>(d.2 (Za k),vi (d.3 (Za k)))) none,Blk.Ze (MK.int .i64) false (fun k=>(d.4 (Za k),vi (d.5 (Za k)))) none,Blk.Ze (MK.int .i64) false (fun k=>(d.6 (Za k),vi (d.7 (Za k)))) none]
 let q2:=(V.cons (V.fn (Fn.func (164:Nat)) V.nil (V.cons (V.ptr false 6 0 0 0) (V.cons (V.ptr false 4 0 0 0) V.nil))) (V.cons (V.bool false false) (V.cons q4 (ci ((d.a.n6:Nat):Int) (ci (0:Int) V.nil)))))
 Tree.node (bif ((d.a.n6:Nat):Int) != ((d.a.n4:Nat):Int) then true else false) (Tree.leaf (V.bool true false,q1)) (Tree.need (d.a.n6 = d.a.n4/\V.cons q3 q2 = V.cons q3 q2/\ci d.a.f0 q0 = ci d.a.f0 q0/\(IntKind.i64 = IntKind.i64/\ZX .i64 (fun x=>(d.2 (Za x),vi (d.3 (Za x)))) fun k=>(d.2 (Za k),vi (d.3 (Za k))))/\(IntKind.i64 = IntKind.i64/\ZX .i64 (fun x=>(d.4 (Za x),vi (d.5 (Za x)))) fun k=>(d.4 (Za k),vi (d.5 (Za k))))/\(IntKind.i64 = IntKind.i64/\ZX .i64 (fun x=>(d.6 (Za x),vi (d.7 (Za x)))) fun k=>(d.6 (Za k),vi (d.7 (Za k))))/\V.cons (V.ptr false 0 0 0 0) V.nil = V.cons (V.ptr false 0 0 0 0) V.nil/\(IntKind.u64 = IntKind.u64/\ZX .u64 (fun x=>(bif Za x==(0:Int) then true else false,V.bool false (bif Za x==(0:Int) then true else false))) fun k=>(bif Zj k (Value.int .u64 (0:Int)) then true else false,V.bool (bif Zj k (Value.int .u64 (0:Int)) then true else true) (bif Zj k (Value.int .u64 (0:Int)) then true else false)))/\V.cons (V.mp 5) V.nil = V.cons (V.mp 5) V.nil/\True) (Tree.node (bif Zp (ZcE d) d.a.n6 then true else false) (Tree.leaf (V.bool true false,q1)) (Tree.leaf (V.bool true true,q1))))
theorem Zk9 (d:Zc):evH (Zn P [GR,Uy] [(WC (d.a.n6 = d.a.n4) (Zdk d))] true) 400 64 (.cons (.ptr true 0 0 0 0) .nil) (ZV d) = vOwned_T d:=by kernel_rfl
def Vp (d:Zc):Bool:=
  (bif bif ((d.a.n6:Nat):Int) != ((d.a.n4:Nat):Int) then true else false then (false) else (bif bif Zp (ZcE d) d.a.n6 then true else false then (false) else
  (true)))
theorem vOwned_at (d:Zc) (h0:d.a.n3<=1000) (h1:d.a.n4<=1000) (h2:0 < d.a.n4->∀ j:Int,0<=(bif d.hh j then d.hg j else 0)/\(bif d.hh j then d.hg j else 0) < d.a.n3):Xb P 64 (.cons (.ptr true 0 0 0 0) .nil) (ZV d) (.leaf (.bool false (Vp d),ZV d)):=by
 refine VO (E:=(Zn P [GR,Uy] [(WC (d.a.n6 = d.a.n4) (Zdk d))] true)) (Zu hm hn (l:=[GR,Uy]) ⟨ZgX,Zhe,trivial⟩ (ls:=[(WC (d.a.n6 = d.a.n4) (Zdk d))]) ⟨Zan fun hg=>ow1_lp_ok d h1 h0 hg h2,trivial⟩ true) (Zk9 d) ((cC rfl (cC rfl rfl))) ⟨⟨rfl,rfl⟩,⟨⟨rfl,rfl⟩,⟨rfl,rfl⟩⟩⟩ ?_
 refine ⟨fun hb0=>trivial,fun hb0=>⟨?_,⟨fun hb1=>trivial,fun hb1=>trivial⟩⟩⟩
 all_goals ((repeat' (first | exact ow1_fit d | exact rfl | exact fun _=>⟨rfl,rfl⟩ | apply And.intro | intro _)); all_goals (try simp only [decide_eq_true_eq,decide_eq_false_iff_not] at *); all_goals (first | omega | exact (by have h:=nf5 hb0; omega) | exact (fun a=>by show (bif (a==0) then true else false) = (bif (a==0) then ((true,V.bool true true):Bool×V) else (false,V.bool true false)).1/\(V.bool true (bif (a==0) then true else false)).soft = (bif (a==0) then ((true,V.bool true true):Bool×V) else (false,V.bool true false)).2.soft; cases (a==0) <;> exact ⟨rfl,rfl⟩) | exact ow1_fit d))
def GI:HK:=fun args bl=>match args,bl with
 | (.cons (.ptr true 0 0 0 0) .nil),[.var c,.Ze (.int .i64) _ fo _,.Ze (.int .i64) _ fn _,.Ze (.int .i64) _ fh _]=>some (c.WT fun c=>.need (KP c fo fn fh/\(fun (d:Zc)=>d.a.n3<=1000) (ZF c fo fn fh)/\(fun (d:Zc)=>d.a.n4<=1000) (ZF c fo fn fh)/\(fun (d:Zc)=>0 < d.a.n4->∀ j:Int,0<=(bif d.hh j then d.hg j else 0)/\(bif d.hh j then d.hg j else 0) < d.a.n3) (ZF c fo fn fh)) (.leaf (.bool false (Vp (ZF c fo fn fh)),ZV (ZF c fo fn fh))))
 | _,_=>none
theorem vOwned_ok:Xj P 64 GI:=by
 intro args bl T hT
 unfold GI at hT
 split at hT
 ·rename_i c q1 fo q2 q3 fn q4 q5 fh q6
  injection hT with hT
  subst hT
  intro base mm F w xs Q KK h1 h2 hq hk
  simp only [V.Qw] at hq
  obtain ⟨hp,hq⟩:=hq
  exact Xb.le (bl:=[.var c,.Ze (.int .i64) q1 fo q2,.Ze (.int .i64) q3 fn q4,.Ze (.int .i64) q5 fh q6]) (vOwned_at (ZF c fo fn fh) hp.2.1 hp.2.2.1 hp.2.2.2) rfl (fun b=>Vr hp.1 b) base mm F w xs Q KK h1 h2 hq hk
 ·cases hT
abbrev ga2_ts (d:Zc) (w:Int) (m:Nat) (r:Nat->DT3) (x0:Int) (i:Int) (z:Nat×(Nat->Zw)):V:=(.cons (.ptr true 0 0 0 0) (.cons (.bool true false) (.cons (.ptr true 4 0 0 0) (.cons (.osl false 5 1 0 z.1) (.cons (.rsl false 2 d.a.n5 (fun j=>ZE false (d.a.r5 j))) (.cons (.int false .i64 ((d.a.n5:Nat):Int)) (.cons (.int false .i64 w) (.cons (.rsl false 1 m (fun j=>Ym false (r j))) (.cons (.int false .i64 ((m:Nat):Int)) (.cons (.int false .i64 i) .nil))))))))))
abbrev ga2_ys (d:Zc) (w:Int) (m:Nat) (r:Nat->DT3) (x0:Int) (i:Int) (z:Nat×(Nat->Zw)):List Blk:=[.var (ZM d.a),mO d,mN d,mH d,.var (.cons (.int false .i64 x0) (.cons (.rsl false 1 m (fun j=>Ym false (r j))) .nil)),.arr 1 z.1 (fun j=>ZW false (z.2 j))]
def ga2_R (d:Zc) (w:Int) (m:Nat) (r:Nat->DT3) (x0:Int) (i:Int) (z:Nat×(Nat->Zw)):Tree Rd:=
 let q4:=(V.rsl false 2 d.a.n5 fun jj=>ZE false (d.a.r5 jj))
 let q3:=(V.rsl false 1 m fun jj=>ci (r jj).f0 V.nil)
 let q0:=(Tree.leaf (Ex.ret,true,V.cons (pt 0) (V.cons (V.bool true false) (V.cons (pt 4) (V.cons (V.osl false 5 1 0 (Prod.fst z)) (V.cons q4 (ci ((d.a.n5:Nat):Int) (ci w (V.cons q3 (ci (m:Int) (ci i V.nil))))))))),[Blk.var (ZM d.a),mO d,mN d,mH d,Blk.var (ci x0 (V.cons q3 V.nil)),Blk.arr 1 (Prod.fst z) fun jj=>V.cons (V.int false .u32 (z.2 jj).f0) V.nil]))
 let q1:=(bif d.6 (r (Int.toNat i)).f0 then d.7 (r (Int.toNat i)).f0 else (0:Int))
 let q2:=(V.cons (V.rsl false 4 d.a.n3 fun j=>Zm false (d.a.r3 j)) (V.cons (V.rsl false 4 d.a.n4 fun j=>Zk false (d.a.r4 j)) V.nil))
 let q5:=(ci (r (Int.toNat i)).f0 V.nil)
 Tree.need ((0:Int)<=i/\i < (m:Int)) (Tree.node (bif !d.2 (r (Int.toNat i)).f0 then true else false) q0 (Tree.need (((0:Int)<=bif d.2 (r (Int.toNat i)).f0 then d.3 (r (Int.toNat i)).f0 else (0:Int))/\(bif d.2 (r (Int.toNat i)).f0 then d.3 (r (Int.toNat i)).f0 else (0:Int)) < ((d.a.n6:Nat):Int)) (Tree.need ((0:Int)<=(0:Int)/\(0:Int) < (m:Int)) (Tree.node (bif q1 != bif d.6 (r (Int.toNat (0:Int))).f0 then d.7 (r (Int.toNat (0:Int))).f0 else (0:Int) then true else false) q0 (Tree.need (V.cons (V.agg q2) q5 = V.cons (V.agg q2) q5/\d.a.n3<=(1000:Nat)/\d.a.n4<=(1000:Nat)) (Tree.need (((0:Int)<=bif d.6 (r (Int.toNat i)).f0 then d.7 (r (Int.toNat i)).f0 else (0:Int))/\q1 < ((d.a.n3:Nat):Int)) (Tree.need ((0:Int)<=(d.a.r3 (Int.toNat q1)).f3/\(d.a.r3 (Int.toNat q1)).f3 < ((d.a.n2:Nat):Int)) (Tree.need (Prod.fst z<=Prod.fst z/\fits (Prod.fst z + (1:Nat)) (4:Nat)) (Tree.leaf (Ex.normal,true,V.cons (pt 0) (V.cons (V.bool true false) (V.cons (pt 4) (V.cons (V.osl false 5 1 0 (Prod.fst z + (1:Nat))) (V.cons q4 (ci ((d.a.n5:Nat):Int) (ci w (V.cons q3 (ci (m:Int) (ci (IntKind.wrap .i64 (i + (1:Int))) V.nil))))))))),[Blk.var (ZM d.a),mO d,mN d,mH d,Blk.var (ci x0 (V.cons q3 V.nil)),Blk.arr 1 (Prod.fst z + (1:Nat)) fun jj=>bif Nat.beq jj (Prod.fst z + nat_lit 0) then V.cons (V.int false .u32 (IntKind.wrap .u32 ((BitVec.toNat (BitVec.ofInt (IntKind.bits .u32) (JC (ZY q2) (r (Int.toNat i)).f0) &&& BitVec.ofInt (IntKind.bits .u32) (d.a.r2 (Int.toNat (d.a.r3 (Int.toNat q1)).f3)).f0):Nat):Int))) V.nil else V.cons (V.int false .u32 (z.2 jj).f0) V.nil]))))))))))
theorem ga2_round (d:Zc) (w:Int) (m:Nat) (r:Nat->DT3) (x0:Int):Yp P (Zn P [XU] [] true) 65 6 5 6 59 [0,2,4,5,13,14,15,20,21,22] [(0,.own),(1,.own),(2,.own),(3,.own),(4,.own),(5,.tmp 5)] [] (ga2_ts d w m r x0) (ga2_ys d w m r x0) (fun i=>(bif decide (i < (m:Int)) then false else true)) (.exit 2) (ga2_R d w m r x0):=fun B i z=>by kernel_rfl
def ZaK (d:Zc) (m:Nat) (r:Nat->DT3) (k:Nat) (z:Nat×(Nat->Zw)):Nat×(Nat->Zw):=(fun (i:Int) (z:Nat×(Nat->Zw))=>(bif bif !d.2 (r (Int.toNat i)).f0 then true else false then ((z.1,z.2)) else (bif bif (bif d.6 (r (Int.toNat i)).f0 then d.7 (r (Int.toNat i)).f0 else (0:Int)) != bif d.6 (r (Int.toNat (0:Int))).f0 then d.7 (r (Int.toNat (0:Int))).f0 else (0:Int) then true else false then ((z.1,z.2)) else ((((Prod.fst z + (1:Nat)):Nat),(fun (jj:Nat)=>WA (bif Nat.beq jj (Prod.fst z + nat_lit 0) then V.cons (V.int false .u32 (IntKind.wrap .u32 ((BitVec.toNat (BitVec.ofInt (IntKind.bits .u32) (JC (ZY (V.cons (V.rsl false 4 d.a.n3 fun j=>Zm false (d.a.r3 j)) (V.cons (V.rsl false 4 d.a.n4 fun j=>Zk false (d.a.r4 j)) V.nil))) (r (Int.toNat i)).f0) &&& BitVec.ofInt (IntKind.bits .u32) (d.a.r2 (Int.toNat (d.a.r3 (Int.toNat (bif d.6 (r (Int.toNat i)).f0 then d.7 (r (Int.toNat i)).f0 else (0:Int)))).f3)).f0):Nat):Int))) V.nil else V.cons (V.int false .u32 (z.2 jj).f0) V.nil))))))) k z
def JI (d:Zc) (m:Nat) (r:Nat->DT3) (k:Nat):Nat×(Nat->Zw):=ZI (0,(fun _=>WA .nil)) (ZaK d m r) k
def ga2_bad (d:Zc) (m:Nat) (r:Nat->DT3) (k:Nat):Bool:=(fun (i:Int) (z:Nat×(Nat->Zw))=>(bif bif !d.2 (r (Int.toNat i)).f0 then true else false then true else (bif bif (bif d.6 (r (Int.toNat i)).f0 then d.7 (r (Int.toNat i)).f0 else (0:Int)) != bif d.6 (r (Int.toNat (0:Int))).f0 then d.7 (r (Int.toNat (0:Int))).f0 else (0:Int) then true else false then true else false))) k (JI d m r k)
theorem ga2_cnt (d:Zc) (m:Nat) (r:Nat->DT3) (k:Nat):(JI d m r k).1<=k:=ZaI (m:=fun z:Nat×(Nat->Zw)=>z.1) (Nat.le_refl _) (fun k z=>((WB (p:=fun y:Nat×(Nat->Zw)=>y.1<=z.1 + 1) (by show _<=_ + 1; first | omega | exact Nat.le_succ _ | exact Nat.le_refl _) (WB (p:=fun y:Nat×(Nat->Zw)=>y.1<=z.1 + 1) (by show _<=_ + 1; first | omega | exact Nat.le_succ _ | exact Nat.le_refl _) (by show _<=_ + 1; first | omega | exact Nat.le_succ _ | exact Nat.le_refl _))):(fun y:Nat×(Nat->Zw)=>y.1<=z.1 + 1) (ZaK d m r k z))) k
abbrev ga2_ets (d:Zc) (w:Int) (m:Nat) (r:Nat->DT3) (x0:Int) (i:Int) (z:Nat×(Nat->Zw)):V:=(.cons (V.ptr true 0 0 0 0) (.cons (V.bool true false) (.cons (V.ptr true 4 0 0 0) (.cons .junk (.cons (V.rsl false 2 d.a.n5 fun jj=>ZE false (d.a.r5 jj)) (.cons (V.int false .i64 ((d.a.n5:Nat):Int)) (.cons (V.int false .i64 w) (.cons (V.rsl false 1 m fun jj=>V.cons (V.int false .i64 (r jj).f0) V.nil) (.cons (V.int false .i64 (m:Int)) (.cons .junk .nil))))))))))
abbrev ga2_eys (d:Zc) (w:Int) (m:Nat) (r:Nat->DT3) (x0:Int) (i:Int) (z:Nat×(Nat->Zw)):List Blk:=[.var (ZM d.a),mO d,mN d,mH d,.var (.cons (.int false .i64 x0) (.cons (.rsl false 1 m (fun j=>Ym false (r j))) .nil)),.any]
def ga2_lp (d:Zc) (w:Int) (m:Nat) (r:Nat->DT3) (x0:Int):Lp:=lpL 65 6 5 6 59 [0,2,4,5,13,14,15,20,21,22] [(0,.own),(1,.own),(2,.own),(3,.own),(4,.own),(5,.tmp 5)] [] (ga2_ts d w m r x0) (ga2_ys d w m r x0) (.exit 2) .ret (0,(fun _=>WA .nil)) (JI d m r) (ga2_bad d m r) (m) (ga2_ets d w m r x0) (ga2_eys d w m r x0)
theorem ga2_lp_ok (d:Zc) (w:Int) (m:Nat) (r:Nat->DT3) (x0:Int) (hl:m<=1000) (hO:∀ j:Int,d.oh j = true->0<=d.og j/\d.og j < d.a.n6) (h64:d.a.n6 = d.a.n4) (hl3:d.a.n3<=1000) (hl4:d.a.n4<=1000) (hH:0 < d.a.n4->∀ j:Int,0<=(bif d.hh j then d.hg j else 0)/\(bif d.hh j then d.hg j else 0) < d.a.n3) (hP:0 < d.a.n4->∀ j:Int,0<=(d.a.r3 (bif d.hh j then d.hg j else 0).toNat).f3/\(d.a.r3 (bif d.hh j then d.hg j else 0).toNat).f3 < d.a.n2):(ga2_lp d w m r x0).Ok P:=by
 refine Y4 (Zu hm hn (l:=[XU]) ⟨KW,trivial⟩ (ls:=[]) trivial true) rfl (by kernel_rfl) (ga2_round d w m r x0) exN YB (fun _=>rfl) (rd:=(fun _ t y=>((t.nth 3).oslN,(fun j=>WA ((y.getD 5 .none).arrG j))))) (fun i z=>(cC rfl (cC rfl rfl))) (fun i=>(cC rfl (cC rfl rfl))) rfl (fun i hlt hg=>?_) (fun i z hi=>?_)
 ·have hltI:(i:Int) < ((m:Nat):Int):=by omega
  refine ⟨?_,⟨fun hb0=>trivial,fun hb0=>⟨?_,⟨?_,⟨fun hb1=>trivial,fun hb1=>⟨?_,⟨?_,⟨?_,⟨?_,trivial⟩⟩⟩⟩⟩⟩⟩⟩⟩
  all_goals (have hf0:=ga2_cnt d m r i)
  all_goals (repeat' (first | exact rfl | exact fun _=>⟨rfl,rfl⟩ | apply And.intro | intro _))
  all_goals (try simp only [decide_eq_true_eq,decide_eq_false_iff_not,Bool.not_eq_true',Bool.not_eq_false'] at *)
  all_goals (try simp (disch:=omega) only [IntWalk.i64_in])
  all_goals (first | omega | exact (hH (by have h2:=hO _ (nf hb0); omega) _).1 | exact (hH (by have h2:=hO _ (nf hb0); omega) _).2 | exact (hP (by have h2:=hO _ (nf hb0); omega) _).1 | exact (hP (by have h2:=hO _ (nf hb0); omega) _).2 | exact (by rw [nf hb0]; exact (hO _ (nf hb0)).1) | exact (by rw [nf hb0]; exact (hO _ (nf hb0)).2))
 ·have hw:=(IntWalk.i64_in ((i:Int) + 1) ⟨by omega,by omega⟩)
  refine ⟨?_,⟨?_,?_⟩⟩
  all_goals (first | exact ⟨rfl,YD (ts:=ga2_ts d w m r x0) hw rfl,⟨LeK.refl _,LeK.refl _,LeK.refl _,LeK.refl _,LeK.refl _,LeK.arrS rfl (fun j hj=>by first | rfl | exact Zbs (g:=fun v=>(ZW false (WA v)).soft) rfl rfl),trivial⟩⟩ | exact ⟨rfl,rfl,(by repeat' (first | exact Le.refl _ | exact Le.junk _ rfl | apply Le.cons)),⟨LeK.refl _,LeK.refl _,LeK.refl _,LeK.refl _,LeK.refl _,LeK.any _,trivial⟩⟩)
def ga2_in (d:Zc):Lp:=⟨65,6,fun _ s=>(s.tmp 15).QF .stuck fun w=>(s.tmp 20).UJ .stuck fun m r20=>(s.blk 4).onVar .stuck fun c4=>(c4.hd).QF .stuck fun x0=>.need ((fun (d:Zc) (w:Int) (m:Nat) (r:Nat->DT3) (x0:Int)=>m<=1000) d w m (fun j=>YF (r20 j)) x0) ((ga2_lp d w m (fun j=>YF (r20 j)) x0).g _ s)⟩
theorem ga2_in_ok (d:Zc) (hO:∀ j:Int,d.oh j = true->0<=d.og j/\d.og j < d.a.n6) (h64:d.a.n6 = d.a.n4) (hl3:d.a.n3<=1000) (hl4:d.a.n4<=1000) (hH:0 < d.a.n4->∀ j:Int,0<=(bif d.hh j then d.hg j else 0)/\(bif d.hh j then d.hg j else 0) < d.a.n3) (hP:0 < d.a.n4->∀ j:Int,0<=(d.a.r3 (bif d.hh j then d.hg j else 0).toNat).f3/\(d.a.r3 (bif d.hh j then d.hg j else 0).toNat).f3 < d.a.n2):(ga2_in d).Ok P:=by
 intro body hin hfr B s Q hq
 obtain ⟨w,hq⟩:=Ji hq
 obtain ⟨m,r20,hq⟩:=G9 hq
 obtain ⟨c4,hq⟩:=onVar_h hq
 obtain ⟨x0,hq⟩:=Ji hq
 exact ga2_lp_ok d w m (fun j=>YF (r20 j)) x0 hq.1 hO h64 hl3 hl4 hH hP body hin hfr B s Q hq.2
theorem u32_rng (x:Int):0<=IntKind.wrap .u32 x/\IntKind.wrap .u32 x < 4294967296:=by
 have e:IntKind.wrap .u32 x = x % 4294967296:=rfl
 rw [e]
 omega
theorem Zb3 (d:Zc) (m:Nat) (r:Nat->DT3):∀ k j,j < (JI d m r k).1->0<=((JI d m r k).2 j).f0/\((JI d m r k).2 j).f0 < 4294967296:=by
 intro k
 induction k with
 | zero=>intro j hj; exact absurd hj (Nat.not_lt_zero j)
 | succ k ih=>
  show ∀ j,j < (ZaK d m r k (JI d m r k)).1->0<=((ZaK d m r k (JI d m r k)).2 j).f0/\((ZaK d m r k (JI d m r k)).2 j).f0 < 4294967296
  generalize JI d m r k = z at ih ⊢
  refine WB (p:=fun y:Nat×(Nat->Zw)=>∀ j,j < y.1->0<=(y.2 j).f0/\(y.2 j).f0 < 4294967296) ih (WB (p:=fun y:Nat×(Nat->Zw)=>∀ j,j < y.1->0<=(y.2 j).f0/\(y.2 j).f0 < 4294967296) ih fun j hj=>?_)
  have hj':j < z.1 + 1:=hj
  cases h:Nat.beq j (z.1 + 0) with
  | true=>
   dsimp only
   rw [h]
   exact u32_rng _
  | false=>
   dsimp only
   rw [h]
   have hne:j ≠ z.1:=fun e=>by subst e; rw [Nat.add_zero,Nat.beq_refl] at h; cases h
   exact ih j (by omega)
structure Zd where mk ::
 (n0:Nat) (r0:Nat->DT3)
def QW (st:Bool) (d:Zd):V:=(.cons (.rsl st 1 d.n0 fun j=>Ym st (d.r0 j)) .nil)
abbrev S4:Type:=(Int->Bool)×(Int->Bool)×(Int->Bool)×(Int->Int)
def Ww (z:S4) (c:Int):S4:=(fun j=>bif j==c then true else z.1 j,fun j=>bif j==c then true else z.2.1 j,fun j=>z.2.2.1 j,fun j=>z.2.2.2 j)
def Jr (z:S4) (c:Int):Int:=bif z.2.2.1 c then z.2.2.2 c else 0
abbrev askB (z:S4):Blk:=.Ze (.int .i64) false (fun x=>(z.1 (Za x),.bool false (z.2.1 (Za x)))) none
abbrev hasB (z:S4):Blk:=.Ze (.int .i64) false (fun x=>(z.2.2.1 (Za x),.int false .i64 (z.2.2.2 (Za x)))) none
abbrev rowsB (m:Nat) (r:Nat->Zd):Blk:=.var (.cons (.rsl false 1 m fun j=>QW false (r j)) .nil)
abbrev capB:Blk:=.var (.cons (.fn (.func 301) .nil (.cons (.ptr true 1 0 0 0) (.cons (.ptr true 2 0 0 0) (.cons (.ptr true 3 0 0 0) .nil)))) .nil)
abbrev GK (m:Nat) (r:Nat->Zd) (z:S4):List Blk:=[askB z,rowsB m r,.var (.cons (.mp 4) .nil),capB,hasB z]
abbrev Zho (i:Int):V:=.cons (.int false .i64 i) (.cons (.mp 0) (.cons (.ptr true 1 0 0 0) (.cons (.ptr true 2 0 0 0) (.cons (.ptr true 3 0 0 0) .nil))))
def QZ (m:Nat) (r:Nat->Zd) (G:Int->S4->Bool×S4) (Pr:Int->S4->Prop):HK:=fun args bl=>match args,bl with
 | .cons (.int false .i64 i) (.cons (.mp 0) (.cons (.ptr true 1 0 0 0) (.cons (.ptr true 2 0 0 0) (.cons (.ptr true 3 0 0 0) .nil)))),[.Ze (.int .i64) _ fa _,.var (.cons (.rsl false 1 m' fr) .nil),.var (.cons (.mp 4) .nil),.var (.cons (.fn (.func 301) .nil (.cons (.ptr true 1 0 0 0) (.cons (.ptr true 2 0 0 0) (.cons (.ptr true 3 0 0 0) .nil)))) .nil),.Ze (.int .i64) _ fh _]=>
  some (.need (m = m'/\(fun j=>QW false (r j)) = fr/\ZX .i64 (fun x=>((fa (.int .i64 (Za x))).1,.bool false (fa (.int .i64 (Za x))).2.toBool)) fa/\ZX .i64 (fun x=>((fh (.int .i64 (Za x))).1,.int false .i64 (fh (.int .i64 (Za x))).2.toInt)) fh/\Pr i (fun j=>(fa (.int .i64 j)).1,fun j=>(fa (.int .i64 j)).2.toBool,fun j=>(fh (.int .i64 j)).1,fun j=>(fh (.int .i64 j)).2.toInt))
   (.leaf (.bool false (G i (fun j=>(fa (.int .i64 j)).1,fun j=>(fa (.int .i64 j)).2.toBool,fun j=>(fh (.int .i64 j)).1,fun j=>(fh (.int .i64 j)).2.toInt)).1,GK m r (G i (fun j=>(fa (.int .i64 j)).1,fun j=>(fa (.int .i64 j)).2.toBool,fun j=>(fh (.int .i64 j)).1,fun j=>(fh (.int .i64 j)).2.toInt)).2)))
 | _,_=>none
end Go.Proofs.YtnjjailadijdlaaGreatDoor
end
