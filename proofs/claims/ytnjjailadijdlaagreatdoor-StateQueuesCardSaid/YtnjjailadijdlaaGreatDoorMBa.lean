/- view.placed: its inner loop -/
import Derived.Test.YtnjjailadijdlaaGreatDoorMAz
import Derived.Test.YtnjjailadijdlaaGreatDoorMAm
import Derived.Test.YtnjjailadijdlaaGreatDoorMAo
import Derived.Test.YtnjjailadijdlaaGreatDoorMAs
import Derived.Test.YtnjjailadijdlaaGreatDoorMAu
import Derived.Test.YtnjjailadijdlaaGreatDoorMAv
import Derived.Test.YtnjjailadijdlaaGreatDoorMAt
set_option maxRecDepth 100000
set_option linter.unusedVariables false
set_option linter.unusedSimpArgs false
noncomputable section
namespace Go.Proofs.YtnjjailadijdlaaGreatDoor
open Go.Fw
abbrev pl4_ts (d:Zc) (w:Int) (m:Nat) (r:Nat->DT3) (i:Int) (z:Int×Int):V:=(.cons (.ptr true 0 0 0 0) (.cons (.bool true false) (.cons (.int false .i64 (z.1)) (.cons (.int false .i64 (z.2)) (.cons (.rsl false 2 d.a.n5 (fun j=>ZE false (d.a.r5 j))) (.cons (.int false .i64 ((d.a.n5:Nat):Int)) (.cons (.int false .i64 w) (.cons (.rsl false 1 m (fun j=>Ym false (r j))) (.cons (.int false .i64 ((m:Nat):Int)) (.cons (.int false .i64 i) .nil))))))))))
abbrev pl4_ys (d:Zc) (w:Int) (m:Nat) (r:Nat->DT3) (i:Int) (z:Int×Int):List Blk:=[.var (ZM d.a),mO d,mN d,mH d]
def pl4_R (d:Zc) (w:Int) (m:Nat) (r:Nat->DT3) (i:Int) (z:Int×Int):Tree Rd:=
 let q1:=(bif d.2 (r (Int.toNat i)).f0 then d.3 (r (Int.toNat i)).f0 else (0:Int))
 let q0:=(d.a.r6 (Int.toNat q1))
 Tree.need (((0:Int)<=i/\i < (m:Int))/\(d.4 (r (Int.toNat i)).f0 = false->(bif !d.2 (r (Int.toNat i)).f0 then true else false) = false->((0:Int)<=bif d.2 (r (Int.toNat i)).f0 then d.3 (r (Int.toNat i)).f0 else (0:Int))/\q1 < ((d.a.n6:Nat):Int))) (Tree.leaf (Ex.normal,true,V.cons (pt 0) (V.cons (V.bool true false) (ci (bif d.4 (r (Int.toNat i)).f0 then IntKind.wrap .i64 (Prod.fst z + (1:Int)) else Prod.fst z) (ci (bif d.4 (r (Int.toNat i)).f0 then Prod.snd z else bif bif !d.2 (r (Int.toNat i)).f0 then true else false then Prod.snd z else bif bif bif bif !bif decide (q0.f1 >= (0:Int)) then bif decide (q0.f1<=(3:Int)) then bif decide (q0.f2 >= (0:Int)) then bif decide (q0.f2<=(15:Int)) then bif decide (q0.f4 >= (0:Int)) then decide (q0.f4<=(1125899906842624:Int)) else false else false else false else false else false then true else !(bif q0.f3 != (0:Int) then true else q0.f4 != (0:Int))==(q0.f1==(3:Int)) then true else false then false else q0.f1==(1:Int)&&(q0.f2==(0:Int)&&(q0.f3==(0:Int)&&(q0.f4==(0:Int)&&true))) then IntKind.wrap .i64 (Prod.snd z + (1:Int)) else Prod.snd z) (V.cons (V.rsl false 2 d.a.n5 fun jj=>ZE false (d.a.r5 jj)) (ci ((d.a.n5:Nat):Int) (ci w (V.cons (V.rsl false 1 m fun jj=>ci (r jj).f0 V.nil) (ci (m:Int) (ci (IntKind.wrap .i64 (i + (1:Int))) V.nil))))))))),[Blk.var (ZM d.a),mO d,mN d,mH d]))
theorem pl4_round (d:Zc) (w:Int) (m:Nat) (r:Nat->DT3):Yp P (Zn P [QV] [] true) 67 21 5 5 146 [0,2,12,13,108,109,110,115,116,117] [(0,.own),(1,.own),(2,.own),(3,.own)] [] (pl4_ts d w m r) (pl4_ys d w m r) (fun i=>(bif decide (i < (m:Int)) then false else true)) (.exit 6) (pl4_R d w m r):=fun B i z=>by kernel_rfl
def pl4_step (d:Zc) (m:Nat) (r:Nat->DT3) (k:Nat) (z:Int×Int):Int×Int:=(fun (i:Int) (z:Int×Int)=>((bif d.4 (r (Int.toNat i)).f0 then IntKind.wrap .i64 (Prod.fst z + (1:Int)) else Prod.fst z,bif d.4 (r (Int.toNat i)).f0 then Prod.snd z else bif bif !d.2 (r (Int.toNat i)).f0 then true else false then Prod.snd z else bif bif bif bif !bif decide ((d.a.r6 (Int.toNat (bif d.2 (r (Int.toNat i)).f0 then d.3 (r (Int.toNat i)).f0 else (0:Int)))).f1 >= (0:Int)) then bif decide ((d.a.r6 (Int.toNat (bif d.2 (r (Int.toNat i)).f0 then d.3 (r (Int.toNat i)).f0 else (0:Int)))).f1<=(3:Int)) then bif decide ((d.a.r6 (Int.toNat (bif d.2 (r (Int.toNat i)).f0 then d.3 (r (Int.toNat i)).f0 else (0:Int)))).f2 >= (0:Int)) then bif decide ((d.a.r6 (Int.toNat (bif d.2 (r (Int.toNat i)).f0 then d.3 (r (Int.toNat i)).f0 else (0:Int)))).f2<=(15:Int)) then bif decide ((d.a.r6 (Int.toNat (bif d.2 (r (Int.toNat i)).f0 then d.3 (r (Int.toNat i)).f0 else (0:Int)))).f4 >= (0:Int)) then decide ((d.a.r6 (Int.toNat (bif d.2 (r (Int.toNat i)).f0 then d.3 (r (Int.toNat i)).f0 else (0:Int)))).f4<=(1125899906842624:Int)) else false else false else false else false else false then true else !(bif (d.a.r6 (Int.toNat (bif d.2 (r (Int.toNat i)).f0 then d.3 (r (Int.toNat i)).f0 else (0:Int)))).f3 != (0:Int) then true else (d.a.r6 (Int.toNat (bif d.2 (r (Int.toNat i)).f0 then d.3 (r (Int.toNat i)).f0 else (0:Int)))).f4 != (0:Int))==((d.a.r6 (Int.toNat (bif d.2 (r (Int.toNat i)).f0 then d.3 (r (Int.toNat i)).f0 else (0:Int)))).f1==(3:Int)) then true else false then false else (d.a.r6 (Int.toNat (bif d.2 (r (Int.toNat i)).f0 then d.3 (r (Int.toNat i)).f0 else (0:Int)))).f1==(1:Int)&&((d.a.r6 (Int.toNat (bif d.2 (r (Int.toNat i)).f0 then d.3 (r (Int.toNat i)).f0 else (0:Int)))).f2==(0:Int)&&((d.a.r6 (Int.toNat (bif d.2 (r (Int.toNat i)).f0 then d.3 (r (Int.toNat i)).f0 else (0:Int)))).f3==(0:Int)&&((d.a.r6 (Int.toNat (bif d.2 (r (Int.toNat i)).f0 then d.3 (r (Int.toNat i)).f0 else (0:Int)))).f4==(0:Int)&&true))) then IntKind.wrap .i64 (Prod.snd z + (1:Int)) else Prod.snd z))) k z
def pl4_acc (d:Zc) (m:Nat) (r:Nat->DT3) (k:Nat):Int×Int:=ZI (0,0) (pl4_step d m r) k
def pl4_lp (d:Zc) (w:Int) (m:Nat) (r:Nat->DT3):Lp:=lpL0 67 21 5 5 146 [0,2,12,13,108,109,110,115,116,117] [(0,.own),(1,.own),(2,.own),(3,.own)] [] (pl4_ts d w m r) (pl4_ys d w m r) (.exit 6) (0,0) (pl4_acc d m r) (m)
theorem pl4_lp_ok (d:Zc) (w:Int) (m:Nat) (r:Nat->DT3) (hl:m<=1000) (hO:∀ j:Int,d.oh j = true->0<=d.og j/\d.og j < d.a.n6):(pl4_lp d w m r).Ok P:=by
 refine Vm (Zu hm hn (l:=[QV]) ⟨UO,trivial⟩ (ls:=[]) trivial true) rfl (by kernel_rfl) (pl4_round d w m r) exN YB (fun _=>rfl) (rd:=(fun _ t y=>((t.nth 2).toInt,(t.nth 3).toInt))) (fun i z=>rfl) (fun i=>rfl) rfl (fun i hlt hg=>?_) (fun i z hi=>?_)
 ·have hltI:(i:Int) < ((m:Nat):Int):=by omega
  refine ⟨?_,trivial⟩
  all_goals (repeat' (first | exact rfl | exact fun _=>⟨rfl,rfl⟩ | apply And.intro | intro _))
  all_goals (try simp only [decide_eq_true_eq,decide_eq_false_iff_not,Bool.not_eq_true',Bool.not_eq_false'] at *)
  all_goals (try simp (disch:=omega) only [IntWalk.i64_in])
  all_goals (first | omega | exact (WO ‹_› (hO _)).1 | exact (WO ‹_› (hO _)).2)
 ·have hw:=(IntWalk.i64_in ((i:Int) + 1) ⟨by omega,by omega⟩)
  all_goals exact ⟨rfl,YD (ts:=pl4_ts d w m r) hw rfl,Z7 _⟩
def pl4_in (d:Zc):Lp:=⟨67,21,fun _ s=>(s.tmp 110).QF .stuck fun w=>(s.tmp 115).UJ .stuck fun m r115=>.need ((fun (d:Zc) (w:Int) (m:Nat) (r:Nat->DT3)=>m<=1000) d w m (fun j=>YF (r115 j))) ((pl4_lp d w m (fun j=>YF (r115 j))).g _ s)⟩
theorem pl4_in_ok (d:Zc) (hO:∀ j:Int,d.oh j = true->0<=d.og j/\d.og j < d.a.n6):(pl4_in d).Ok P:=by
 intro body hin hfr B s Q hq
 obtain ⟨w,hq⟩:=Ji hq
 obtain ⟨m,r115,hq⟩:=G9 hq
 exact pl4_lp_ok d w m (fun j=>YF (r115 j)) hq.1 hO body hin hfr B s Q hq.2
abbrev ZaX (d:Zc) (i:Int) (z:Unit):V:=(.cons (.ptr true 0 0 0 0) (.cons (.bool true false) (.cons (.rsl false 2 (Zb.n5 (Zc.a d)) (fun j=>ZE false ((Zc.a d).r5 j))) (.cons (.int false .i64 (((Zb.n5 (Zc.a d)):Nat):Int)) (.cons (.int false .i64 i) .nil)))))
abbrev G8 (d:Zc) (i:Int) (z:Unit):List Blk:=[.var (ZM d.a),mO d,mN d,mH d]
def pl3_R (d:Zc) (i:Int) (z:Unit):Tree Rd:=
 let q5:=(V.rsl false 2 d.a.n5 fun j=>ZE false (d.a.r5 j))
 let q0:=(V.cons (V.rsl false 2 d.a.n1 fun j=>Yk false (d.a.r1 j)) (V.cons (V.rsl false 1 d.a.n2 fun j=>V.cons (V.int false .u32 (d.a.r2 j).f0) V.nil) (V.cons (V.rsl false 4 d.a.n3 fun j=>Zm false (d.a.r3 j)) (V.cons (V.rsl false 4 d.a.n4 fun j=>Zk false (d.a.r4 j)) (V.cons q5 (V.cons (V.rsl false 11 d.a.n6 fun j=>ZT false (d.a.r6 j)) (V.cons (V.rsl false 2 d.a.n7 fun j=>ZN false (d.a.r7 j)) (V.cons (V.rsl false 5 d.a.n8 fun j=>ZG false (d.a.r8 j)) (ci d.a.f9 (V.cons (V.rsl false 2 d.a.n10 fun j=>Zr false (d.a.r10 j)) (V.cons (V.rsl false 3 d.a.n11 fun j=>Zl false (d.a.r11 j)) (V.cons (V.rsl false 2 d.a.n12 fun j=>Yq false (d.a.r12 j)) (V.cons (V.int false .u64 d.a.f13) (V.cons (V.mp 1) (V.cons (V.mp 2) (V.cons (V.mp 3) V.nil))))))))))))))))
 let q6:=(vi (0:Int))
 let q3:=(vi ((d.a.n5:Nat):Int))
 let q1:=(V.cons (V.bool false false) (V.cons q6 (V.cons q6 (V.cons q5 (V.cons q3 (ci i (V.cons (V.rsl false 1 (d.a.r5 (Int.toNat i)).n1 fun j=>ci ((d.a.r5 (Int.toNat i)).3 j).f0 V.nil) (ci (((d.a.r5 (Int.toNat i)).n1:Nat):Int) (V.cons q6 V.nil)))))))))
 let q2:=(pl4_acc d (d.a.r5 (Int.toNat i)).n1 (fun j=>YF (Ym false ((d.a.r5 (Int.toNat i)).3 j))) (d.a.r5 (Int.toNat i)).n1)
 let q4:=(V.rsl false 2 d.a.n5 fun jj=>ZE false (d.a.r5 jj))
 Tree.need (((0:Int)<=i/\i < ((d.a.n5:Nat):Int))/\(d.a.r5 (Int.toNat i)).n1<=(1000:Nat)/\V.cons (V.ptr false 0 0 0 0) q1 = V.cons (V.ptr false 0 0 0 0) q1/\ci d.a.f0 q0 = ci d.a.f0 q0/\(IntKind.i64 = IntKind.i64/\ZX .i64 (fun x=>(d.2 (Za x),vi (d.3 (Za x)))) fun k=>(d.2 (Za k),vi (d.3 (Za k))))/\(IntKind.i64 = IntKind.i64/\ZX .i64 (fun x=>(d.4 (Za x),vi (d.5 (Za x)))) fun k=>(d.4 (Za k),vi (d.5 (Za k))))/\(IntKind.i64 = IntKind.i64/\ZX .i64 (fun x=>(d.6 (Za x),vi (d.7 (Za x)))) fun k=>(d.6 (Za k),vi (d.7 (Za k))))/\True) (Tree.node (bif bif bif decide (Prod.fst q2 > (0:Int)) then decide (Prod.snd q2 > (0:Int)) else false then true else false then true else false) (Tree.leaf (Ex.ret,true,V.cons (pt 0) (V.cons (V.bool true false) (V.cons q4 (V.cons q3 (ci i V.nil)))),[Blk.var (ZM d.a),mO d,mN d,mH d])) (Tree.leaf (Ex.normal,true,V.cons (pt 0) (V.cons (V.bool true false) (V.cons q4 (V.cons q3 (ci (IntKind.wrap .i64 (i + (1:Int))) V.nil)))),[Blk.var (ZM d.a),mO d,mN d,mH d])))
theorem pl3_round (d:Zc):Yp P (Zn P [QV] [pl4_in d] true) 67 17 4 4 146 [0,2,108,109,110] [(0,.own),(1,.own),(2,.own),(3,.own)] [] (ZaX d) (G8 d) (fun i=>(bif decide (i < ((d.a.n5:Nat):Int)) then false else true)) (.exit 4) (pl3_R d):=fun B i z=>by kernel_rfl
def ZeB (d:Zc) (k:Nat):Bool:=(pl3_R d k ()).early
abbrev pl3_ets (d:Zc) (i:Int) (z:Unit):V:=(.cons (V.ptr true 0 0 0 0) (.cons (V.bool true false) (.cons (V.rsl false 2 d.a.n5 fun jj=>ZE false (d.a.r5 jj)) (.cons (V.int false .i64 ((d.a.n5:Nat):Int)) (.cons .junk .nil)))))
def Zdl (d:Zc):Lp:=lpL 67 17 4 4 146 [0,2,108,109,110] [(0,.own),(1,.own),(2,.own),(3,.own)] [] (ZaX d) (G8 d) (.exit 4) .ret () (fun _=>()) (ZeB d) (Zb.n5 (Zc.a d)) (pl3_ets d) (G8 d)
def pl3_need (d:Zc):Prop:=YP 4 [] (ZaX d) (G8 d) () (ZaX d (0:Nat) ()) (G8 d (0:Nat) ())
theorem pl3_fit (d:Zc):pl3_need d:=⟨rfl,⟨rfl,⟨rfl,fun _=>⟨rfl,rfl⟩⟩,⟨rfl,fun _=>⟨rfl,rfl⟩⟩,⟨rfl,fun _=>⟨rfl,rfl⟩⟩,trivial⟩⟩
theorem pl3_lp_ok (d:Zc) (hl:d.a.n5<=1000) (hMA:∀ j,(d.a.r5 j).n1<=1000) (hO:∀ j:Int,d.oh j = true->0<=d.og j/\d.og j < d.a.n6):(Zdl d).Ok P:=by
 refine Y4 (Zu hm hn (l:=[QV]) ⟨UO,trivial⟩ (ls:=[pl4_in d]) ⟨pl4_in_ok d hO,trivial⟩ true) rfl (by kernel_rfl) (pl3_round d) exN YB (fun _=>rfl) (step:=fun _ z=>z) (rd:=(fun _ t y=>())) (fun i z=>rfl) (fun i=>rfl) rfl (fun i hlt hg=>?_) (fun i z hi=>?_)
 ·have hltI:(i:Int) < (((Zb.n5 (Zc.a d)):Nat):Int):=by omega
  refine ⟨?_,⟨fun hb0=>trivial,fun hb0=>trivial⟩⟩
  all_goals (repeat' (first | exact rfl | exact fun _=>⟨rfl,rfl⟩ | apply And.intro | intro _))
  all_goals (try simp only [decide_eq_true_eq,decide_eq_false_iff_not,Bool.not_eq_true',Bool.not_eq_false'] at *)
  all_goals (try simp (disch:=omega) only [IntWalk.i64_in])
  all_goals (first | omega | exact hMA _)
 ·have hw:=(IntWalk.i64_in ((i:Int) + 1) ⟨by omega,by omega⟩)
  refine ⟨?_,?_⟩
  all_goals (first | exact ⟨rfl,YD (ts:=ZaX d) (a:=()) hw rfl,Z7 _⟩ | exact ⟨rfl,rfl,(by repeat' (first | exact Le.refl _ | exact Le.junk _ rfl | apply Le.cons)),Z7 _⟩)
def vPlaced_T (d:Zc):Tree (V×List Blk):=
 let q12:=(V.rsl false 2 d.a.n5 fun j=>ZE false (d.a.r5 j))
 let q13:=(V.rsl false 11 d.a.n6 fun j=>ZT false (d.a.r6 j))
 let q11:=(V.rsl false 2 d.a.n12 fun j=>Yq false (d.a.r12 j))
 let q0:=(V.cons (V.rsl false 2 d.a.n1 fun j=>Yk false (d.a.r1 j)) (V.cons (V.rsl false 1 d.a.n2 fun j=>V.cons (V.int false .u32 (d.a.r2 j).f0) V.nil) (V.cons (V.rsl false 4 d.a.n3 fun j=>Zm false (d.a.r3 j)) (V.cons (V.rsl false 4 d.a.n4 fun j=>Zk false (d.a.r4 j)) (V.cons q12 (V.cons q13 (V.cons (V.rsl false 2 d.a.n7 fun j=>ZN false (d.a.r7 j)) (V.cons (V.rsl false 5 d.a.n8 fun j=>ZG false (d.a.r8 j)) (ci d.a.f9 (V.cons (V.rsl false 2 d.a.n10 fun j=>Zr false (d.a.r10 j)) (V.cons (V.rsl false 3 d.a.n11 fun j=>Zl false (d.a.r11 j)) (V.cons q11 (V.cons (V.int false .u64 d.a.f13) (V.cons (V.mp 1) (V.cons (V.mp 2) (V.cons (V.mp 3) V.nil))))))))))))))))
 let q1:=[Blk.var (ZM d.a),Blk.Ze (MK.int .i64) false (fun k=>(d.2 (Za k),vi (d.3 (Za k)))) none,Blk.Ze (MK.int .i64) false (fun k=>(d.4 (Za k),vi (d.5 (Za k)))) none,Blk.Ze (MK.int .i64) false (fun k=>(d.6 (Za k),vi (d.7 (Za k)))) none]
 let q2:=(IntKind.i64 = IntKind.i64/\ZX .i64 (fun x=>(d.2 (Za x),vi (d.3 (Za x)))) fun k=>(d.2 (Za k),vi (d.3 (Za k))))
 let q3:=(IntKind.i64 = IntKind.i64/\ZX .i64 (fun x=>(d.4 (Za x),vi (d.5 (Za x)))) fun k=>(d.4 (Za k),vi (d.5 (Za k))))
 let q4:=(IntKind.i64 = IntKind.i64/\ZX .i64 (fun x=>(d.6 (Za x),vi (d.7 (Za x)))) fun k=>(d.6 (Za k),vi (d.7 (Za k))))
 let q9:=(ci (0:Int) V.nil)
 let q5:=(V.cons (V.bool false false) (ci (-1:Int) (V.cons q11 (ci ((d.a.n12:Nat):Int) q9))))
 let q6:=(V.cons (V.bool false false) (V.cons q13 (ci ((d.a.n6:Nat):Int) q9)))
 let q7:=(V.cons (V.bool false false) (V.cons q12 (ci ((d.a.n5:Nat):Int) q9)))
 let q8:=(vi d.a.f0)
 let q10:=(Tree.leaf (V.bool true false,q1))
 Tree.need (V.cons (V.ptr false 0 0 0 0) q5 = V.cons (V.ptr false 0 0 0 0) q5/\V.cons q8 q0 = V.cons q8 q0/\q2/\q3/\q4/\True) (Tree.node (bif Zp (Za2 d) d.a.n12 then true else false) q10 (Tree.need (V.cons (V.ptr false 0 0 0 0) q6 = V.cons (V.ptr false 0 0 0 0) q6/\V.cons q8 q0 = V.cons q8 q0/\q2/\q3/\q4/\True) (Tree.node (bif Zp (ZfJ d) d.a.n6 then true else false) q10 (Tree.need (V.cons (V.ptr false 0 0 0 0) q7 = V.cons (V.ptr false 0 0 0 0) q7/\V.cons q8 q0 = V.cons q8 q0/\q2/\q3/\q4/\True) (Tree.node (bif Zp (ZeB d) d.a.n5 then true else false) q10 (Tree.leaf (V.bool true true,q1)))))))
theorem ZjN (d:Zc):evH (Zn P [QV,U8,XU] [ZcH d,Zcg d,Zdl d] true) 400 67 (.cons (.ptr true 0 0 0 0) .nil) (ZV d) = vPlaced_T d:=by kernel_rfl
def GH (d:Zc):Bool:=
  (bif bif Zp (Za2 d) d.a.n12 then true else false then (false) else (bif bif Zp (ZfJ d) d.a.n6 then true else false then (false) else (bif bif Zp (ZeB d)
  d.a.n5 then true else false then (false) else (true))))
theorem Zj0 (d:Zc) (h0:d.a.n3<=1000) (h1:d.a.n4<=1000) (h2:d.a.n5<=1000) (h3:d.a.n6<=1000) (h4:d.a.n12<=1000) (h5:∀ j,(d.a.r5 j).n1<=1000) (h6:∀ j:Int,d.oh j = true->0<=d.og j/\d.og j < d.a.n6) (h7:d.a.n6 = d.a.n4) (h8:0 < d.a.n4->∀ j:Int,0<=(bif d.hh j then d.hg j else 0)/\(bif d.hh j then d.hg j else 0) < d.a.n3) (h9:0 < d.a.n4->∀ j:Int,0<=(d.a.r3 (bif d.hh j then d.hg j else 0).toNat).f3/\(d.a.r3 (bif d.hh j then d.hg j else 0).toNat).f3 < d.a.n2) (h10:d.a.n7 = d.a.n3):Xb P 67 (.cons (.ptr true 0 0 0 0) .nil) (ZV d) (.leaf (.bool false (GH d),ZV d)):=by
 refine VO (E:=(Zn P [QV,U8,XU] [ZcH d,Zcg d,Zdl d] true)) (Zu hm hn (l:=[QV,U8,XU]) ⟨UO,ZfH,KW,trivial⟩ (ls:=[ZcH d,Zcg d,Zdl d]) ⟨pl1_lp_ok d h4 h6 h7 h0 h1 h8 h9 h10,pl2_lp_ok d h3,pl3_lp_ok d h2 h5 h6,trivial⟩ true) (ZjN d) ((cC rfl (cC rfl (cC rfl rfl)))) ⟨⟨rfl,rfl⟩,⟨⟨rfl,rfl⟩,⟨⟨rfl,rfl⟩,⟨rfl,rfl⟩⟩⟩⟩ ?_
 refine ⟨?_,⟨fun hb0=>trivial,fun hb0=>⟨?_,⟨fun hb1=>trivial,fun hb1=>⟨?_,⟨fun hb2=>trivial,fun hb2=>trivial⟩⟩⟩⟩⟩⟩
 all_goals ((repeat' (first | exact pl1_fit d | exact pl2_fit d | exact pl3_fit d | exact rfl | exact fun _=>⟨rfl,rfl⟩ | apply And.intro | intro _)); all_goals (try simp only [decide_eq_true_eq,decide_eq_false_iff_not] at *); all_goals (first | omega | exact pl1_fit d | exact pl2_fit d | exact pl3_fit d))
def UA:HK:=fun args bl=>match args,bl with
 | (.cons (.ptr true 0 0 0 0) .nil),[.var c,.Ze (.int .i64) _ fo _,.Ze (.int .i64) _ fn _,.Ze (.int .i64) _ fh _]=>some (c.WT fun c=>.need (KP c fo fn fh/\(fun (d:Zc)=>d.a.n3<=1000) (ZF c fo fn fh)/\(fun (d:Zc)=>d.a.n4<=1000) (ZF c fo fn fh)/\(fun (d:Zc)=>d.a.n5<=1000) (ZF c fo fn fh)/\(fun (d:Zc)=>d.a.n6<=1000) (ZF c fo fn fh)/\(fun (d:Zc)=>d.a.n12<=1000) (ZF c fo fn fh)/\(fun (d:Zc)=>∀ j,(d.a.r5 j).n1<=1000) (ZF c fo fn fh)/\(fun (d:Zc)=>∀ j:Int,d.oh j = true->0<=d.og j/\d.og j < d.a.n6) (ZF c fo fn fh)/\(fun (d:Zc)=>d.a.n6 = d.a.n4) (ZF c fo fn fh)/\(fun (d:Zc)=>0 < d.a.n4->∀ j:Int,0<=(bif d.hh j then d.hg j else 0)/\(bif d.hh j then d.hg j else 0) < d.a.n3) (ZF c fo fn fh)/\(fun (d:Zc)=>0 < d.a.n4->∀ j:Int,0<=(d.a.r3 (bif d.hh j then d.hg j else 0).toNat).f3/\(d.a.r3 (bif d.hh j then d.hg j else 0).toNat).f3 < d.a.n2) (ZF c fo fn fh)/\(fun (d:Zc)=>d.a.n7 = d.a.n3) (ZF c fo fn fh)) (.leaf (.bool false (GH (ZF c fo fn fh)),ZV (ZF c fo fn fh))))
 | _,_=>none
theorem Zj7:Xj P 67 UA:=by
 intro args bl T hT
 unfold UA at hT
 split at hT
 ·rename_i c q1 fo q2 q3 fn q4 q5 fh q6
  injection hT with hT
  subst hT
  intro base mm F w xs Q KK h1 h2 hq hk
  simp only [V.Qw] at hq
  obtain ⟨hp,hq⟩:=hq
  exact Xb.le (bl:=[.var c,.Ze (.int .i64) q1 fo q2,.Ze (.int .i64) q3 fn q4,.Ze (.int .i64) q5 fh q6]) (Zj0 (ZF c fo fn fh) hp.2.1 hp.2.2.1 hp.2.2.2.1 hp.2.2.2.2.1 hp.2.2.2.2.2.1 hp.2.2.2.2.2.2.1 hp.2.2.2.2.2.2.2.1 hp.2.2.2.2.2.2.2.2.1 hp.2.2.2.2.2.2.2.2.2.1 hp.2.2.2.2.2.2.2.2.2.2.1 hp.2.2.2.2.2.2.2.2.2.2.2) rfl (fun b=>Vr hp.1 b) base mm F w xs Q KK h1 h2 hq hk
 ·cases hT
abbrev chkHk:List Hc:=[⟨61,Ux⟩,⟨62,Gs⟩,⟨63,UZ⟩,⟨64,GI⟩,⟨65,UF⟩,⟨66,Gu⟩,⟨67,UA⟩]
abbrev chkE:Env:={ (Zn P [] [] true) with hk:=WR chkHk }
def kT (K:HK) (args:V) (bl:List Blk):Tree (V×List Blk):=(K args bl).getD .stuck
def chkM (K:HK) (d:Zc) (r:Bool) (next:Tree V):Tree V:=(kT K (.cons (.ptr true 0 0 0 0) .nil) (ZV d)).bind fun _=>.node (bif bif !r then true else false then true else false) (.leaf (.int true .i64 300)) next
theorem chk_tree (a:Zb):ZQ chkE 400 16 (.cons (.agg (Zt false a)) .nil) =
  (kT Ux (.cons (.agg (Zt false a)) .nil) []).bind fun _=>
   chkM Gs (Zh a) (VX (Zh a)) (chkM UZ (Zh a) (Vq (Zh a)) (chkM GI (Zh a) (Vp (Zh a)) (chkM UF (Zh a) (Gv (Zh a)) (chkM Gu (Zh a) (U2 (Zh a)) (chkM UA (Zh a) (GH (Zh a)) (.leaf (.int true .i64 0))))))):=by kernel_rfl
theorem Zhw (n:Nat) (r:Nat->Yo) (b:Int):0<=VN n r b/\VN n r b<=n/\(UM n r b = true->VN n r b < n):=by
 have h:QJ n r b<=n:=Zdi _ _ _ (Nat.zero_le _)
 have e:VN n r b = (QJ n r b:Int):=by
  unfold VN; cases decide (((QJ n r b:Nat):Int) < (n:Int)) <;> rfl
 rw [e]
 refine ⟨by omega,by omega,fun h1=>?_⟩
 unfold UM at h1
 cases hc:decide (((QJ n r b:Nat):Int) < (n:Int)) with
 | true=>exact of_decide_eq_true hc
 | false=>rw [hc] at h1; cases h1
theorem orF {c d:Bool} (h:(bif c then true else d) = false):c = false/\d = false:=by cases c; exact ⟨rfl,h⟩; cases h
theorem Ql {c d:Bool} (h:(bif c then d else false) = true):c = true/\d = true:=by cases c; cases h; exact ⟨rfl,h⟩
theorem zF {c:Bool} {x y:Int} (hx:x ≠ 0) (h:(bif c then x else y) = 0):c = false/\y = 0:=by cases c; exact ⟨rfl,h⟩; exact absurd h hx
theorem nT {c:Bool} (h:(!c) = false):c = true:=by cases c; cases h; rfl
theorem dc1_pool (a:Zf) (k:Nat) (h:ZdI a k = false):0<=(a.r0 k).f3:=by
 have h1:=(orF (nf4 (nf4 (nf4 h)))).1
 have h2:=(Ql (Ql (Ql (Ql (Ql (Ql (Ql (nT h1)).2).2).2).2).2).2).1
 exact of_decide_eq_true h2
theorem Zif (d:Zc) (k:Nat) (h:Jt d k = false):(d.a.r3 k).f3 < d.a.n2:=by
 have h1:=of_decide_eq_false (orF h).1
 have h2:¬ (d.a.r3 k).f3 >= (d.a.n2:Int):=h1
 omega
theorem ZhN {a:Zf} (h:Wm a = 0):∀ j,j < a.n0->0<=(a.r0 j).f3:=fun j hj=>
 dc1_pool a j (Kw (nf4 (zF (by decide) (zF (by decide) h).2).1) j hj)
theorem ZjB {a:Yw} (h:Vx a = 0):∀ j,j < a.n0->Uc (a.r0 j).n1 (a.r0 j).r1 = true:=fun j hj=>by
 have h1:=Kw (nf4 (zF (by decide) h).1) j hj
 exact nT (orF (orF (nf4 (orF h1).1)).2).2
theorem eqT {x y:Int} (h:(x==y) = true):x = y:=by simpa using h
theorem fT {c d:Bool} (h:(bif c then false else d) = true):c = false/\d = true:=by cases c; exact ⟨rfl,h⟩; cases h
theorem gMay_two {n:Nat} {r:Nat->DT3} (h:Uc n r = true):0 < n/\n<=8:=by
 have h1:=Ql (fT h).2
 have h2:(n:Int) >= 2:=of_decide_eq_true h1.1
 have h3:(n:Int)<=8:=of_decide_eq_true h1.2
 omega
theorem ec1_ge (a:Yl):∀ k:Nat,0<=UK a k:=by
 intro k
 induction k with
 | zero=>exact Int.le_refl _
 | succ k ih=>
  show 0<=ZhZ a k (UK a k)
  generalize UK a k = z at ih ⊢
  have e:∀ c:Bool,(c = false->z < (a.r0 k).f0)->0<=(bif c then z else (a.r0 k).f0):=fun c hc=>by
   cases c
   ·have:=hc rfl; show 0<=(a.r0 k).f0; omega
   ·exact ih
  refine e _ fun h=>?_
  have h1:=of_decide_eq_false (orF (nf4 (nf4 h))).1
  have h2:¬ (a.r0 k).f0<=z:=h1
  omega
theorem ZiV {a:Yl} (h:Uj a = 0):∀ j,j < a.n0->1<=(a.r0 j).f0/\(a.r0 j).f0<=32:=fun j hj=>by
 have h1:=Kw (nf4 (zF (by decide) h).1) j hj
 have h2:=orF (nf4 (nf4 (nf4 h1)))
 have h3:¬ (a.r0 j).f0<=UK a j:=of_decide_eq_false h2.1
 have h4:¬ (a.r0 j).f0 > 32:=of_decide_eq_false (orF h2.2).1
 have h5:=ec1_ge a j
 omega
theorem ZhT {a:Zf} (h:Wm a = 0) (h1:0 < a.n1):0 < a.n0:=by
 have h2:=Kw (nf4 (zF (by decide) (zF (by decide) (zF (by decide) h).2).2).1) 0 h1
 have h3:=(orF (orF (orF (nf4 (nf4 (nf4 h2)))).2).2).2
 have h4:=(Zhw a.n0 (fun j=>Wd (Zm false (a.r0 j))) (a.r1 0).f1).2.2 (nT h3)
 have h5:=(Zhw a.n0 (fun j=>Wd (Zm false (a.r0 j))) (a.r1 0).f1).1
 omega
theorem ZeT {d:Zc} (h:Vp d = true):d.a.n6 = d.a.n4:=by
 have:=nf5 (fT h).1
 omega
theorem ZeH {d:Zc} (h:Vq d = true):d.a.n7 = d.a.n3/\∀ j,j < d.a.n3->(d.a.r3 j).f3 < d.a.n2:=by
 have h1:=fT h
 have h2:=nf3 h1.1
 exact ⟨by omega,fun j hj=>Zif d j (Kw (nf4 (fT h1.2).1) j hj)⟩
theorem Zdp {d:Zc} (h:VX d = true):Wm ⟨d.a.n3,d.a.r3,d.a.n4,d.a.r4⟩ = 0/\Vx ⟨d.a.n5,d.a.r5⟩ = 0/\Uj ⟨d.a.n8,d.a.r8⟩ = 0:=by
 have h1:=Ql h
 have h2:=Ql h1.2
 exact ⟨eqT (Ql (Ql (Ql h1.1).2).2).2,eqT h2.1,eqT (Ql h2.2).1⟩
theorem put_ix {h:Int->Bool} {g:Int->Int} {id v:Int} {p:Int->Prop} (hi:∀ j,h j = true->p (g j)) (hv:p v):∀ j,(bif j==id then true else h j) = true->p (bif j==id then v else g j):=by
 intro j hj
 cases e:(j==id) with
 | true=>exact hv
 | false=>rw [e] at hj; exact hi j hj
theorem lk1_ix (a:Zb):∀ k:Nat,∀ j,(Xu a k).1 j = true->0<=(Xu a k).2 j/\(Xu a k).2 j < k:=by
 intro k
 induction k with
 | zero=>intro j h; cases h
 | succ k ih=>
  show ∀ j,(ZbD a k (Xu a k)).1 j = true->0<=(ZbD a k (Xu a k)).2 j/\(ZbD a k (Xu a k)).2 j < (k + 1:Nat)
  generalize Xu a k = z at ih ⊢
  exact put_ix (p:=fun x=>0<=x/\x < ((k + 1:Nat):Int)) (fun j hj=>by have:=ih j hj; omega) (by omega)
theorem lk3_ix (a:Zb):∀ k:Nat,∀ j,(Xg a k).1 j = true->0<=(Xg a k).2 j/\(Xg a k).2 j < k:=by
 intro k
 induction k with
 | zero=>intro j h; cases h
 | succ k ih=>
  show ∀ j,(Zb7 a k (Xg a k)).1 j = true->0<=(Zb7 a k (Xg a k)).2 j/\(Zb7 a k (Xg a k)).2 j < (k + 1:Nat)
  generalize Xg a k = z at ih ⊢
  exact put_ix (p:=fun x=>0<=x/\x < ((k + 1:Nat):Int)) (fun j hj=>by have:=ih j hj; omega) (by omega)
theorem lk4_ix (a:Zb) (h3:0 < a.n3):∀ k:Nat,∀ j,(WV a k).1 j = true->0<=(WV a k).2 j/\(WV a k).2 j < a.n3:=by
 intro k
 induction k with
 | zero=>intro j h; cases h
 | succ k ih=>
  show ∀ j,(Zcl a k (WV a k)).1 j = true->0<=(Zcl a k (WV a k)).2 j/\(Zcl a k (WV a k)).2 j < a.n3
  generalize WV a k = z at ih ⊢
  refine put_ix (p:=fun x=>0<=x/\x < (a.n3:Int)) ih ?_
  have h:=lk3_ix a a.n3 (a.r4 k).f1
  cases e:(Xg a a.n3).1 (a.r4 k).f1 with
  | true=>
   have:=h e
   show 0<=(bif (Xg a a.n3).1 (a.r4 k).f1 then (Xg a a.n3).2 (a.r4 k).f1 else 0)/\(bif (Xg a a.n3).1 (a.r4 k).f1 then (Xg a a.n3).2 (a.r4 k).f1 else 0) < (a.n3:Int)
   rw [e]; exact this
  | false=>
   show 0<=(bif (Xg a a.n3).1 (a.r4 k).f1 then (Xg a a.n3).2 (a.r4 k).f1 else 0)/\(bif (Xg a a.n3).1 (a.r4 k).f1 then (Xg a a.n3).2 (a.r4 k).f1 else 0) < (a.n3:Int)
   rw [e]; exact ⟨Int.le_refl _,by show (0:Int) < a.n3; omega⟩
theorem ZaC (a:Zb):∀ j:Int,(Zh a).oh j = true->0<=(Zh a).og j/\(Zh a).og j < (Zh a).a.n6:=lk1_ix a a.n6
theorem look_HH (a:Zb) (h3:0 < a.n3):∀ j:Int,0<=(bif (Zh a).hh j then (Zh a).hg j else 0)/\(bif (Zh a).hh j then (Zh a).hg j else 0) < (Zh a).a.n3:=by
 intro j
 have h:=lk4_ix a h3 a.n4 j
 show 0<=(bif (WV a a.n4).1 j then (WV a a.n4).2 j else 0)/\(bif (WV a a.n4).1 j then (WV a a.n4).2 j else 0) < (a.n3:Int)
 cases e:(WV a a.n4).1 j with
 | true=>exact h e
 | false=>exact ⟨Int.le_refl _,by show (0:Int) < a.n3; omega⟩
theorem Gd {K:HK} {d:Zc} {r:Bool} {next:Tree V} {Q:V->Prop} {x:V×List Blk} (hK:(kT K (.cons (.ptr true 0 0 0 0) .nil) (ZV d)).holds P fun _=>True) (hf:r = false->Q (.int true .i64 300)) (ht:r = true->next.holds P Q):(chkM K d r next).holds P Q:=by
 unfold chkM
 rw [Tree.Ya]
 refine Tree.Xh _ (fun y _=>?_) hK
 refine ⟨fun h=>hf ?_,fun h=>ht ?_⟩
 ·cases r
  ·rfl
  ·cases h
 ·cases r
  ·cases h
  ·rfl
theorem Zk4 (d:Zc) (h0:d.a.n1<=9) (h1:d.a.n2<=5) (h2:d.a.n3<=1000) (h3:d.a.n4<=1000) (h4:d.a.n5<=1000) (h5:d.a.n8<=1000) (h6:d.a.n10<=1000) (h7:d.a.n11<=1000) (h8:∀ j,(d.a.r5 j).n1<=1000):(kT Gs (.cons (.ptr true 0 0 0 0) .nil) (ZV d)).holds P fun _=>True:=by
 unfold kT Gs ZV
 simp only [Option.getD_some,V.Qw]
 exact ⟨⟨⟨by kernel_rfl,fun _=>⟨rfl,rfl⟩,fun _=>⟨rfl,rfl⟩,fun _=>⟨rfl,rfl⟩⟩,h0,h1,h2,h3,h4,h5,h6,h7,h8⟩,trivial⟩
theorem Zj5 (d:Zc) (h0:d.a.n1<=9) (h1:d.a.n2<=5) (h2:d.a.n3<=1000) (h3:d.a.n4<=1000) (h4:0 < d.a.n4->∀ j:Int,0<=(bif d.hh j then d.hg j else 0)/\(bif d.hh j then d.hg j else 0) < d.a.n3) (h5:Zp (Jt d) d.a.n3 = false->0 < d.a.n4->∀ j:Int,0<=(d.a.r3 (bif d.hh j then d.hg j else 0).toNat).f3/\(d.a.r3 (bif d.hh j then d.hg j else 0).toNat).f3 < d.a.n2):(kT UZ (.cons (.ptr true 0 0 0 0) .nil) (ZV d)).holds P fun _=>True:=by
 unfold kT UZ ZV
 simp only [Option.getD_some,V.Qw]
 exact ⟨⟨⟨by kernel_rfl,fun _=>⟨rfl,rfl⟩,fun _=>⟨rfl,rfl⟩,fun _=>⟨rfl,rfl⟩⟩,h0,h1,h2,h3,h4,h5⟩,trivial⟩
theorem Zk5 (d:Zc) (h0:d.a.n3<=1000) (h1:d.a.n4<=1000) (h2:0 < d.a.n4->∀ j:Int,0<=(bif d.hh j then d.hg j else 0)/\(bif d.hh j then d.hg j else 0) < d.a.n3):(kT GI (.cons (.ptr true 0 0 0 0) .nil) (ZV d)).holds P fun _=>True:=by
 unfold kT GI ZV
 simp only [Option.getD_some,V.Qw]
 exact ⟨⟨⟨by kernel_rfl,fun _=>⟨rfl,rfl⟩,fun _=>⟨rfl,rfl⟩,fun _=>⟨rfl,rfl⟩⟩,h0,h1,h2⟩,trivial⟩
theorem ZjY (d:Zc) (h0:d.a.n3<=1000) (h1:d.a.n4<=1000) (h2:d.a.n5<=1000) (h3:∀ j,j < d.a.n5->0 < (d.a.r5 j).n1/\(d.a.r5 j).n1<=8) (h4:∀ j,(d.a.r5 j).n1<=1000) (h5:∀ j:Int,d.oh j = true->0<=d.og j/\d.og j < d.a.n6) (h6:d.a.n6 = d.a.n4) (h7:0 < d.a.n4->∀ j:Int,0<=(bif d.hh j then d.hg j else 0)/\(bif d.hh j then d.hg j else 0) < d.a.n3) (h8:0 < d.a.n4->∀ j:Int,0<=(d.a.r3 (bif d.hh j then d.hg j else 0).toNat).f3/\(d.a.r3 (bif d.hh j then d.hg j else 0).toNat).f3 < d.a.n2):(kT UF (.cons (.ptr true 0 0 0 0) .nil) (ZV d)).holds P fun _=>True:=by
 unfold kT UF ZV
 simp only [Option.getD_some,V.Qw]
 exact ⟨⟨⟨by kernel_rfl,fun _=>⟨rfl,rfl⟩,fun _=>⟨rfl,rfl⟩,fun _=>⟨rfl,rfl⟩⟩,h0,h1,h2,h3,h4,h5,h6,h7,h8⟩,trivial⟩
theorem Zk6 (d:Zc) (h0:d.a.n8<=1000) (h1:d.a.n10<=1000) (h2:d.a.n11<=1000) (h3:∀ j:Int,d.oh j = true->0<=d.og j/\d.og j < d.a.n6) (h4:∀ j:Nat,j < d.a.n8->1<=(d.a.r8 j).f0/\(d.a.r8 j).f0<=32):(kT Gu (.cons (.ptr true 0 0 0 0) .nil) (ZV d)).holds P fun _=>True:=by
 unfold kT Gu ZV
 simp only [Option.getD_some,V.Qw]
 exact ⟨⟨⟨by kernel_rfl,fun _=>⟨rfl,rfl⟩,fun _=>⟨rfl,rfl⟩,fun _=>⟨rfl,rfl⟩⟩,h0,h1,h2,h3,h4⟩,trivial⟩
theorem ZiE (d:Zc) (h0:d.a.n3<=1000) (h1:d.a.n4<=1000) (h2:d.a.n5<=1000) (h3:d.a.n6<=1000) (h4:d.a.n12<=1000) (h5:∀ j,(d.a.r5 j).n1<=1000) (h6:∀ j:Int,d.oh j = true->0<=d.og j/\d.og j < d.a.n6) (h7:d.a.n6 = d.a.n4) (h8:0 < d.a.n4->∀ j:Int,0<=(bif d.hh j then d.hg j else 0)/\(bif d.hh j then d.hg j else 0) < d.a.n3) (h9:0 < d.a.n4->∀ j:Int,0<=(d.a.r3 (bif d.hh j then d.hg j else 0).toNat).f3/\(d.a.r3 (bif d.hh j then d.hg j else 0).toNat).f3 < d.a.n2) (h10:d.a.n7 = d.a.n3):(kT UA (.cons (.ptr true 0 0 0 0) .nil) (ZV d)).holds P fun _=>True:=by
 unfold kT UA ZV
 simp only [Option.getD_some,V.Qw]
 exact ⟨⟨⟨by kernel_rfl,fun _=>⟨rfl,rfl⟩,fun _=>⟨rfl,rfl⟩,fun _=>⟨rfl,rfl⟩⟩,h0,h1,h2,h3,h4,h5,h6,h7,h8,h9,h10⟩,trivial⟩
theorem ZjV (a:Zb) (h3:a.n3<=1000) (h4:a.n4<=1000) (h6:a.n6<=1000) (h12:a.n12<=1000):(kT Ux (.cons (.agg (Zt false a)) .nil) []).holds P fun _=>True:=by
 unfold kT Ux
 exact ⟨⟨by kernel_rfl,h3,h4,h6,h12⟩,trivial⟩
def Zv (a:Zb):Int:=bif VX (Zh a) then (bif Vq (Zh a) then (bif Vp (Zh a) then (bif Gv (Zh a) then (bif U2 (Zh a) then (bif GH (Zh a) then 0 else 300) else 300) else 300) else 300) else 300) else 300
theorem chk_ok:chkE.Ok:=(Zu hm hn (l:=[]) trivial (ls:=[]) trivial true).JU (l:=chkHk) ⟨look_ok,vParts_ok,Zma,vOwned_ok,ZjG,Zji,Zj7,trivial⟩
theorem chk_meets (a:Zb) (h1:a.n1<=9) (h2:a.n2<=5) (h3:a.n3<=1000) (h4:a.n4<=1000) (h5:a.n5<=1000) (h6:a.n6<=1000) (h8:a.n8<=1000) (h10:a.n10<=1000) (h11:a.n11<=1000) (h12:a.n12<=1000) (hM:∀ j,(a.r5 j).n1<=1000) :
  Zi P 16 (.cons (.agg (Zt false a)) .nil) (.int false .i64 (Zv a)):=by
 refine meets chk_ok 400 (Has.of hn Tryz.func16 rfl) (chk_tree a) ?_
 rw [Tree.Ya]
 refine Tree.Xh _ (fun y _=>?_) (ZjV a h3 h4 h6 h12)
 have bad:∀ x:Int,x = 300->Zv a = x->(V.int true .i64 300).soft.clean = true/\(V.int true .i64 300).soft = (V.int false .i64 (Zv a)).soft:=fun x hx e=>⟨rfl,by rw [e,hx]; rfl⟩
 refine Gd (x:=(.nil,[])) (Zk4 _ h1 h2 h3 h4 h5 h8 h10 h11 hM) (fun e1=>bad _ rfl (by unfold Zv; rw [e1]; rfl)) fun e1=>?_
 obtain ⟨pd,pg,pe⟩:=Zdp e1
 have hHH:0 < a.n4->∀ j:Int,0<=(bif (Zh a).hh j then (Zh a).hg j else 0)/\(bif (Zh a).hh j then (Zh a).hg j else 0) < (Zh a).a.n3:=fun hn4=>look_HH a (ZhT pd hn4)
 have hP0:(∀ j,j < a.n3->(a.r3 j).f3 < a.n2)->0 < a.n4->∀ j:Int,0<=(a.r3 (bif (Zh a).hh j then (Zh a).hg j else 0).toNat).f3/\(a.r3 (bif (Zh a).hh j then (Zh a).hg j else 0).toNat).f3 < a.n2:=fun hp hn4 j=>by
  have hj:=hHH hn4 j
  have hj2:(bif (Zh a).hh j then (Zh a).hg j else 0) < (a.n3:Int):=hj.2
  have hlt:(bif (Zh a).hh j then (Zh a).hg j else 0).toNat < a.n3:=by have:=hj.1; omega
  exact ⟨ZhN pd _ hlt,hp _ hlt⟩
 refine Gd (x:=(.nil,[])) (Zj5 _ h1 h2 h3 h4 hHH (fun hb=>hP0 fun j hj=>Zif (Zh a) j (Kw hb j hj))) (fun e2=>bad _ rfl (by unfold Zv; rw [e1,e2]; rfl)) fun e2=>?_
 obtain ⟨hD,hpool⟩:=ZeH e2
 have hP:=hP0 hpool
 refine Gd (x:=(.nil,[])) (Zk5 _ h3 h4 hHH) (fun e3=>bad _ rfl (by unfold Zv; rw [e1,e2,e3]; rfl)) fun e3=>?_
 have h64:=ZeT e3
 refine Gd (x:=(.nil,[])) (ZjY _ h3 h4 h5 (fun j hj=>gMay_two (ZjB pg j hj)) hM (ZaC a) h64 hHH hP) (fun e4=>bad _ rfl (by unfold Zv; rw [e1,e2,e3,e4]; rfl)) fun e4=>?_
 refine Gd (x:=(.nil,[])) (Zk6 _ h8 h10 h11 (ZaC a) (ZiV pe)) (fun e5=>bad _ rfl (by unfold Zv; rw [e1,e2,e3,e4,e5]; rfl)) fun e5=>?_
 refine Gd (x:=(.nil,[])) (ZiE _ h3 h4 h5 h6 h12 hM (ZaC a) h64 hHH hP hD) (fun e6=>bad _ rfl (by unfold Zv; rw [e1,e2,e3,e4,e5,e6]; rfl)) fun e6=>?_
 exact ⟨rfl,by unfold Zv; rw [e1,e2,e3,e4,e5,e6]; rfl⟩
def small (a:Zb):Prop:=a.n1<=9/\a.n2<=5/\a.n3<=1000/\a.n4<=1000/\a.n5<=1000/\a.n6<=1000/\a.n8<=1000/\a.n10<=1000/\a.n11<=1000/\a.n12<=1000/\∀ j,(a.r5 j).n1<=1000
def Jk (ck:Zb->Int):Con:=Yf 16 (fun x=>.cons (.agg (Zt false (Qm x.hd.inner))) .nil) (fun x=>.int false .i64 (ck (Qm x.hd.inner))) (fun x=>small (Qm x.hd.inner))
theorem Gn:(Jk Zv).Ok P:=Yt fun x h=>chk_meets _ h.1 h.2.1 h.2.2.1 h.2.2.2.1 h.2.2.2.2.1 h.2.2.2.2.2.1 h.2.2.2.2.2.2.1 h.2.2.2.2.2.2.2.1 h.2.2.2.2.2.2.2.2.1 h.2.2.2.2.2.2.2.2.2.1 h.2.2.2.2.2.2.2.2.2.2
def Jg (a:Zb) (d:Zc):HK:=fun args bl=>match args,bl with
 | .cons (.agg c) .nil,[]=>some (.need (c.soft = Zt false a) (.leaf (.ptr true 0 0 0 0,ZV d)))
 | _,_=>none
theorem Zba (a:Zb) (h3:a.n3<=1000) (h4:a.n4<=1000) (h6:a.n6<=1000) (h12:a.n12<=1000):Xj P 61 (Jg a (Zh a)):=by
 intro args bl T hT
 unfold Jg at hT
 split at hT
 ·rename_i c
  injection hT with hT
  subst hT
  intro base mm F w xs Q KK h1 h2 hq hk
  obtain ⟨hc,hq⟩:=hq
  have h2':=((Y7 (.cons (.agg c) .nil) 0 mm).2 xs.toList).2 h2
  rw [show V.soft (.cons (.agg c) .nil) = .cons (.agg c.soft) .nil from rfl,hc] at h2'
  exact look_at _ h3 h4 h6 h12 base mm F w xs Q KK h1 h2' hq hk
 ·cases hT
abbrev askE (ck:Zb->Int) (a:Zb) (d:Zc):Env:={ (Zn P [Jk ck] [] true) with hk:=WR [⟨61,Jg a d⟩] }
theorem Zev (a:Zb) (h:small a):(askE Zv a (Zh a)).Ok:=(Zu hm hn (l:=[Jk Zv]) ⟨Gn,trivial⟩ (ls:=[]) trivial true).JU (l:=[⟨61,Jg a (Zh a)⟩]) ⟨Zba a h.2.2.1 h.2.2.2.1 h.2.2.2.2.2.1 h.2.2.2.2.2.2.2.2.2.1,trivial⟩
theorem on_tree (ck:Zb->Int) (a:Zb) (b:Int) (d:Zc):ZQ (askE ck a d) 400 25 (.cons (.agg (Zt false a)) (.cons (.int false .i64 b) .nil)) =
  .need (Zt false a = Zt false a) (.need ((!d.nh b) = false->V.cons (V.agg (Zt false a)) V.nil = V.cons (V.agg (Zt false a)) V.nil/\small a)
   (.node (bif bif !d.nh b then true else ck a != (0:Int) then true else false) (.leaf (.tup (.cons (.int true .i64 0) (.cons (.bool true false) .nil))))
    (.leaf (.tup (.cons (.int false .i64 (bif d.nh b then d.ng b else 0)) (.cons (.bool true true) .nil)))))):=by kernel_rfl
def Jz (a:Zb) (b:Int):Bool:=(Zh a).nh b&&(Zv a==0)
def Gl (a:Zb) (b:Int):Int:=bif Jz a b then (Zh a).ng b else 0
theorem on_meets (a:Zb) (b:Int) (h:small a):Zi P 25 (.cons (.agg (Zt false a)) (.cons (.int false .i64 b) .nil)) (.tup (.cons (.int false .i64 (Gl a b)) (.cons (.bool false (Jz a b)) .nil))):=by
 refine meets (Zev a h) 400 (Has.of hn Tryz.func25 rfl) (on_tree Zv a b (Zh a)) ?_
 refine ⟨rfl,fun _=>⟨rfl,h⟩,fun hb=>?_,fun hb=>?_⟩
 ·have e:Jz a b = false:=by
   unfold Jz
   cases h1:(Zh a).nh b with
   | false=>rfl
   | true=>
    rw [h1] at hb
    cases h2:(Zv a==0) with
    | false=>rfl
    | true=>
     have h3:(Zv a != 0) = false:=by rw [bne,h2]; rfl
     rw [h3] at hb; cases hb
  exact ⟨rfl,by unfold Gl; rw [e]; rfl⟩
 ·have h0:=nf4 hb
  have h1:=orF h0
  have h2:=nT h1.1
  have h3:(Zv a==0) = true:=by
   have h4:=h1.2
   rw [bne] at h4
   exact nT h4
  have e:Jz a b = true:=by unfold Jz; rw [h2,h3]; rfl
  exact ⟨rfl,by unfold Gl; rw [e,h2]; rfl⟩
abbrev ZbV (a:Zf) (b:Int) (i:Int) (z:Nat×(Nat->DT3)):V:=(.cons (.fn (Fn.func (265:Nat)) .nil (.cons (.ptr true (1:Nat) (0:Nat) (0:Nat) (0:Nat)) .nil)) (.cons .Zz (.cons (.osl false 3 1 0 z.1) (.cons (.rsl false 4 (Zf.n1 a) (fun j=>Zk false (a.r1 j))) (.cons (.int false .i64 (((Zf.n1 a):Nat):Int)) (.cons (.int false .i64 i) .nil))))))
abbrev do1_ys (a:Zf) (b:Int) (i:Int) (z:Nat×(Nat->DT3)):List Blk:=[.var (.cons (.rsl false 4 (Zf.n0 a) (fun j=>Zm false (a.r0 j))) (.cons (.rsl false 4 (Zf.n1 a) (fun j=>Zk false (a.r1 j))) .nil)),.var (.cons (.int false .i64 (b)) .nil),.var (.cons (.rsl false 4 (Zf.n0 a) (fun j=>Zm false (a.r0 j))) (.cons (.rsl false 4 (Zf.n1 a) (fun j=>Zk false (a.r1 j))) .nil)),.arr 1 z.1 (fun j=>Ym false (z.2 j))]
def do1_R (a:Zf) (b:Int) (i:Int) (z:Nat×(Nat->DT3)):Tree Rd:=
 let q3:=(V.rsl false 4 a.n1 fun jj=>Zk false (a.4 jj))
 let q0:=(V.cons (V.rsl false 4 a.n0 fun jj=>Zm false (a.2 jj)) (V.cons q3 V.nil))
 let q1:=(V.cons q3 (ci ((a.n1:Nat):Int) (ci (IntKind.wrap .i64 (i + (1:Int))) V.nil)))
 let q2:=(V.fn (Fn.func (265:Nat)) V.nil (V.cons (pt 1) V.nil))
 Tree.need ((0:Int)<=i/\i < ((a.n1:Nat):Int)) (Tree.node ((a.4 (Int.toNat i)).f1==b) (Tree.need (Prod.fst z<=Prod.fst z/\fits (Prod.fst z + (1:Nat)) (8:Nat)) (Tree.leaf (Ex.normal,true,V.cons q2 (V.cons V.Zz (V.cons (V.osl false 3 1 0 (Prod.fst z + (1:Nat))) q1)),[Blk.var q0,Blk.var (ci b V.nil),Blk.var q0,Blk.arr 1 (Prod.fst z + (1:Nat)) fun jj=>bif Nat.beq jj (Prod.fst z + nat_lit 0) then ci (a.4 (Int.toNat i)).f0 V.nil else ci (z.2 jj).f0 V.nil]))) (Tree.leaf (Ex.normal,true,V.cons q2 (V.cons V.Zz (V.cons (V.osl false 3 1 0 (Prod.fst z)) q1)),[Blk.var q0,Blk.var (ci b V.nil),Blk.var q0,Blk.arr 1 (Prod.fst z) fun jj=>ci (z.2 jj).f0 V.nil])))
theorem do1_round (a:Zf) (b:Int):Yp P (Zn P [JR] [] true) 264 5 3 4 28 [1,4,5,12,13,14] [(0,.own),(1,.own),(2,.own),(3,.tmp 5)] [] (ZbV a b) (do1_ys a b) (fun i=>(bif decide (i < ((a.n1:Nat):Int)) then false else true)) (.exit 0) (do1_R a b):=fun B i z=>by kernel_rfl
def ZhK (a:Zf) (b:Int) (k:Nat) (z:Nat×(Nat->DT3)):Nat×(Nat->DT3):=(fun (i:Int) (z:Nat×(Nat->DT3))=>(bif (a.4 (Int.toNat i)).f1==b then ((((Prod.fst z + (1:Nat)):Nat),(fun (jj:Nat)=>YF (bif Nat.beq jj (Prod.fst z + nat_lit 0) then V.cons (V.int false .i64 (a.4 (Int.toNat i)).f0) V.nil else V.cons (V.int false .i64 (z.2 jj).f0) V.nil)))) else ((((Prod.fst z):Nat),(fun (jj:Nat)=>YF (V.cons (V.int false .i64 (z.2 jj).f0) V.nil)))))) k z
def KZ (a:Zf) (b:Int) (k:Nat):Nat×(Nat->DT3):=ZI (0,(fun _=>YF .nil)) (ZhK a b) k
theorem do1_cnt (a:Zf) (b:Int) (k:Nat):(KZ a b k).1<=k:=ZaI (m:=fun z:Nat×(Nat->DT3)=>z.1) (Nat.le_refl _) (fun k z=>((WB (p:=fun y:Nat×(Nat->DT3)=>y.1<=z.1 + 1) (by show _<=_ + 1; first | omega | exact Nat.le_succ _ | exact Nat.le_refl _) (by show _<=_ + 1; first | omega | exact Nat.le_succ _ | exact Nat.le_refl _)):(fun y:Nat×(Nat->DT3)=>y.1<=z.1 + 1) (ZhK a b k z))) k
def do1_lp (a:Zf) (b:Int):Lp:=lpL0 264 5 3 4 28 [1,4,5,12,13,14] [(0,.own),(1,.own),(2,.own),(3,.tmp 5)] [] (ZbV a b) (do1_ys a b) (.exit 0) (0,(fun _=>YF .nil)) (KZ a b) (Zf.n1 a)
def ZgH (a:Zf) (b:Int):Prop:=YP 4 [] (ZbV a b) (do1_ys a b) (0,(fun _=>YF .nil)) (.cons (.fn (Fn.func (265:Nat)) .nil (.cons (.ptr true (1:Nat) (0:Nat) (0:Nat) (0:Nat)) .nil)) (.cons .Zz (.cons .Zz (.cons (.rsl false 4 (Zf.n1 a) (fun j=>Zk false (a.r1 j))) (.cons (.int false .i64 (((Zf.n1 a):Nat):Int)) (.cons (.int false .i64 (0:Int)) .nil)))))) [.var (.cons (.rsl false 4 (Zf.n0 a) (fun j=>Zm false (a.r0 j))) (.cons (.rsl false 4 (Zf.n1 a) (fun j=>Zk false (a.r1 j))) .nil)),.var (.cons (.int false .i64 (b)) .nil),.var (.cons (.rsl false 4 (Zf.n0 a) (fun j=>Zm false (a.r0 j))) (.cons (.rsl false 4 (Zf.n1 a) (fun j=>Zk false (a.r1 j))) .nil)),.none]
theorem do1_fit (a:Zf) (b:Int):ZgH a b:=⟨⟨rfl,rfl,⟨rfl,by decide⟩,rfl,rfl,rfl,rfl⟩,⟨rfl,rfl,rfl,rfl,trivial⟩⟩
theorem do1_lp_ok (a:Zf) (b:Int) (hl:a.n1<=1000):(do1_lp a b).Ok P:=by
 refine Vm (Zu hm hn (l:=[JR]) ⟨Zdu,trivial⟩ (ls:=[]) trivial true) rfl (by kernel_rfl) (do1_round a b) exN YB (fun _=>rfl) (rd:=(fun _ t y=>((t.nth 2).oslN,(fun j=>YF ((y.getD 3 .none).arrG j))))) (fun i z=>(cC rfl rfl)) (fun i=>(cS rfl rfl)) rfl (fun i hlt hg=>?_) (fun i z hi=>?_)
 ·have hltI:(i:Int) < (((Zf.n1 a):Nat):Int):=by omega
  refine ⟨?_,⟨fun hb0=>⟨?_,trivial⟩,fun hb0=>trivial⟩⟩
  all_goals (have hf0:=do1_cnt a b i)
  all_goals (repeat' (first | exact rfl | exact fun _=>⟨rfl,rfl⟩ | apply And.intro | intro _))
  all_goals (try simp only [decide_eq_true_eq,decide_eq_false_iff_not,Bool.not_eq_true',Bool.not_eq_false'] at *)
  all_goals (try simp (disch:=omega) only [IntWalk.i64_in])
  all_goals (first | omega)
 ·have hw:=(IntWalk.i64_in ((i:Int) + 1) ⟨by omega,by omega⟩)
  refine ⟨?_,?_⟩
  all_goals exact ⟨rfl,YD (ts:=ZbV a b) hw rfl,⟨LeK.refl _,LeK.refl _,LeK.refl _,LeK.arrS rfl (fun j hj=>by first | rfl | exact Zbs (g:=fun v=>(Ym false (YF v)).soft) rfl rfl),trivial⟩⟩
def dOf_T (a:Zf) (b:Int):Tree V:=
 let q0:=(V.cons (V.rsl false 4 a.n0 fun j=>Zm false (a.2 j)) (V.cons (V.rsl false 4 a.n1 fun j=>Zk false (a.4 j)) V.nil))
 Tree.need (V.cons (V.agg q0) V.nil = V.cons (V.agg q0) V.nil/\a.n0<=(1000:Nat)/\a.n1<=(1000:Nat)) (Tree.node (bif Wm (ZY q0) != (0:Int) then true else false) (Tree.leaf V.Zz) (Tree.need (ZgH a b) (Tree.need ((0:Nat) + Prod.fst (KZ a b a.n1)<=Prod.fst (KZ a b a.n1)) (Tree.leaf (V.rsl false 1 (Prod.fst (KZ a b a.n1)) fun j=>ci ((KZ a b a.n1).2 ((0:Nat) + j)).f0 V.nil)))))
theorem dOf_tree (a:Zf) (b:Int):ZQ (Zn P [JR] [do1_lp a b] true) 400 204 (.cons (.agg (Qi false a)) (.cons (.int false .i64 b) .nil)) = dOf_T a b:=by kernel_rfl
def JW (a:Zf) (b:Int):Nat:=
  (bif bif Wm (ZY (V.cons (V.rsl false 4 a.n0 fun j=>Zm false (a.2 j)) (V.cons (V.rsl false 4 a.n1 fun j=>Zk false (a.4 j)) V.nil))) != (0 :
  Int) then true else false then (0:Nat) else Prod.fst (KZ a b a.n1))
def J9 (a:Zf) (b:Int):Nat->DT3:=
  fun j=>YF ((fun j=>V.cons (V.int false .i64 ((KZ a b a.n1).2 ((0:Nat) + j)).f0) V.nil) j)
theorem dOf_meets (a:Zf) (b:Int) (h0:a.n0<=1000) (h1:a.n1<=1000):Zi P 204 (.cons (.agg (Qi false a)) (.cons (.int false .i64 b) .nil)) (.rsl false 1 (JW a b) (fun j=>Ym false ((J9 a b) j))):=
 YI (Zu hm hn (l:=[JR]) ⟨Zdu,trivial⟩ (ls:=[do1_lp a b]) ⟨do1_lp_ok a b h1,trivial⟩ true) 400 (Has.of hn Tryz.func204 rfl) (dOf_tree a b) (Tree.Pre.mk (by refine ⟨?_,⟨fun _=>trivial,fun _=>⟨?_,⟨?_,trivial⟩⟩⟩⟩; all_goals (first | exact do1_fit a b | (((repeat' (first | exact rfl | exact fun _=>⟨rfl,rfl⟩ | apply And.intro | intro _)); all_goals (try simp only [decide_eq_true_eq,decide_eq_false_iff_not] at *); all_goals omega))))) (by kernel_rfl) (by kernel_rfl)
def c_dOf:Con:=Yf 204 (fun x=>(.cons (.agg (Qi false (ZY x.hd.inner))) (.cons (.int false .i64 x.tl.hd.toInt) .nil))) (fun x=>(.rsl false 1 (JW (ZY x.hd.inner) x.tl.hd.toInt) (fun j=>Ym false ((J9 (ZY x.hd.inner) x.tl.hd.toInt) j)))) (fun x=>(ZY x.hd.inner).n0<=1000/\(ZY x.hd.inner).n1<=1000)
theorem c_dOf_ok:c_dOf.Ok P:=Yt (fun x h=>dOf_meets _ _ h.1 h.2)
def YJ (a:Zq):Bool:=(ZeP a).toBool
def YN (a:ZK):Bool:=(bDry_V a).toBool
def XQ (wr:Zq->Bool):Con:=XT 42 (.cons (.agg ZcM) .nil) (fun x=>true) (fun x=>.bool false (wr (Y0 x.hd.inner))) (fun x=>(.cons (.agg (YT true (Y0 x.hd.inner))) .nil)) (fun x=>True)
def XK (bd:ZK->Bool):Con:=XT 202 (.cons (.agg Ze2) .nil) (fun x=>true) (fun x=>.bool false (bd (WJ x.hd.inner))) (fun x=>(.cons (.agg (ZN true (WJ x.hd.inner))) .nil)) (fun x=>True)
theorem Gb:(XQ YJ).Ok P:=UO
theorem Uw:(XK YN).Ok P:=ZfH
def Qk (a:Zb):Zf:=⟨a.n3,a.r3,a.n4,a.r4⟩
def KQ (n:Zf->Int->Nat) (r:Zf->Int->Nat->DT3):Con:=Yf 204 (fun x=>(.cons (.agg (Qi false (ZY x.hd.inner))) (.cons (.int false .i64 x.tl.hd.toInt) .nil))) (fun x=>(.rsl false 1 (n (ZY x.hd.inner) x.tl.hd.toInt) (fun j=>Ym false ((r (ZY x.hd.inner) x.tl.hd.toInt) j)))) (fun x=>(ZY x.hd.inner).n0<=1000/\(ZY x.hd.inner).n1<=1000)
theorem c_dOfA_ok:(KQ JW J9).Ok P:=c_dOf_ok
def QU (a:Zf) (b:Int):ZP:=⟨Zfv a b,ZeL a b,JC a b,ZeS a b⟩
def Gz (v:Zf->Int->ZP) (q:Zf->Int->Bool):Con:=Yf 126 (fun x=>(.cons (.agg (Qi false (ZY x.hd.inner))) (.cons (.int false .i64 x.tl.hd.toInt) .nil))) (fun x=>(.tup (.cons (.agg (Zk false (v (ZY x.hd.inner) x.tl.hd.toInt))) (.cons (.bool false (q (ZY x.hd.inner) x.tl.hd.toInt)) .nil)))) (fun x=>(ZY x.hd.inner).n0<=1000/\(ZY x.hd.inner).n1<=1000)
theorem Zii:(Gz QU QD).Ok P:=KW
def ZbQ (a:Zb):V:=(Zt false a).app (.cons (.mp 3) (.cons (.mp 4) (.cons (.mp 5) .nil)))
def own0:DOwn:=⟨0,0,0,0,0,0,0,0,0,0,0⟩
def cutI (m:Int) (n:Nat):Int:=if m < (n:Int) then m else (n:Int)
def Z5 (m:Int) (n:Nat):Nat:=Int.toNat (cutI m n)
theorem Qq {m:Nat} {n:Nat}:Z5 m n<=m/\Z5 m n<=n:=by
 unfold Z5 cutI
 split <;> omega
theorem Zh1 {m:Nat} {n:Nat}:(0:Int)<=cutI m n/\cutI m n<=(n:Int):=by
 unfold cutI
 split <;> omega
theorem ZhQ {m b:Nat} {n:Nat} (h:m * b<=140737488355328/\m<=1000):fits (Z5 m n - 0) b:=by
 have h1:Z5 m n - 0<=m:=Qq.1
 exact ⟨Nat.le_trans (Nat.mul_le_mul_right b h1) h.1,by omega⟩
def cutT (m:Int) (n es b:Nat) (c:Nat->V):Tree V:=.need ((0:Int)<=cutI m n/\cutI m n<=(n:Int)) (.need (True/\fits (Z5 m n - 0) b/\∀ (j:Nat),j < Z5 m n - 0->(c (0 + j)).Xp = true/\(c (0 + j)).clean = true)
 (.need (0 + (Z5 m n - 0)<=Z5 m n - 0) (.leaf (.rsl false es (Z5 m n - 0) fun j=>c (0 + (0 + j))))))
abbrev cutE:Env:=Zn P [] [] true
theorem Ju {g:FuncId} {args:V} (m:Nat) {n es b:Nat} {c:Nat->V} (hh:Has P g) (hT:ZQ cutE 400 g args = cutT m n es b c) (hb:m * b<=140737488355328/\m<=1000) (hc:∀ j,(c j).Xp = true/\(c j).clean = true):Zi P g args (.rsl false es (Z5 m n) c):=by
 refine meets (Zu hm hn (l:=[]) trivial (ls:=[]) trivial true) 400 hh hT ?_
 refine ⟨Zh1,⟨trivial,ZhQ hb,fun j _=>hc _⟩,Nat.le_of_eq (Nat.zero_add _),rfl,?_⟩
 show V.rsl false es _ _ = V.rsl false es _ _
 simp only [Nat.zero_add,Nat.sub_zero]
theorem Zlh (n:Nat) (r:Nat->DSeat):Zi P 11 (.cons (.rsl false 2 n fun j=>Yk false (r j)) (.cons (.int false .i64 9) .nil)) (.rsl false 2 (Z5 9 n) fun j=>Yk false (r j)):=Ju 9 (Has.of hn Tryz.func11 rfl) (b:=16) (by kernel_rfl) (by decide) fun _=>⟨rfl,rfl⟩
def Zen:Con:=Yf 11 (fun x=>.cons (.rsl false 2 x.hd.ZC fun j=>Yk false (ZdK (x.hd.ZH j))) (.cons (.int false .i64 9) .nil)) (fun x=>.rsl false 2 (Z5 9 x.hd.ZC) fun j=>Yk false (ZdK (x.hd.ZH j))) (fun _=>True)
theorem Zlu:Zen.Ok P:=Yt fun x _=>Zlh _ _
theorem ZlD (n:Nat) (r:Nat->Zw):Zi P 68 (.cons (.rsl false 1 n fun j=>ZW false (r j)) (.cons (.int false .i64 5) .nil)) (.rsl false 1 (Z5 5 n) fun j=>ZW false (r j)):=Ju 5 (Has.of hn Tryz.func68 rfl) (b:=4) (by kernel_rfl) (by decide) fun _=>⟨rfl,rfl⟩
def Ze5:Con:=Yf 68 (fun x=>.cons (.rsl false 1 x.hd.ZC fun j=>ZW false (WA (x.hd.ZH j))) (.cons (.int false .i64 5) .nil)) (fun x=>.rsl false 1 (Z5 5 x.hd.ZC) fun j=>ZW false (WA (x.hd.ZH j))) (fun _=>True)
theorem ZjD:Ze5.Ok P:=Yt fun x _=>ZlD _ _
theorem ZlV (n:Nat) (r:Nat->Yo):Zi P 69 (.cons (.rsl false 4 n fun j=>Zm false (r j)) (.cons (.int false .i64 9) .nil)) (.rsl false 4 (Z5 9 n) fun j=>Zm false (r j)):=Ju 9 (Has.of hn Tryz.func69 rfl) (b:=32) (by kernel_rfl) (by decide) fun _=>⟨rfl,rfl⟩
def ZeG:Con:=Yf 69 (fun x=>.cons (.rsl false 4 x.hd.ZC fun j=>Zm false (Wd (x.hd.ZH j))) (.cons (.int false .i64 9) .nil)) (fun x=>.rsl false 4 (Z5 9 x.hd.ZC) fun j=>Zm false (Wd (x.hd.ZH j))) (fun _=>True)
theorem ZjR:ZeG.Ok P:=Yt fun x _=>ZlV _ _
theorem ZiM (n:Nat) (r:Nat->ZP):Zi P 70 (.cons (.rsl false 4 n fun j=>Zk false (r j)) (.cons (.int false .i64 17) .nil)) (.rsl false 4 (Z5 17 n) fun j=>Zk false (r j)):=Ju 17 (Has.of hn Tryz.func70 rfl) (b:=24) (by kernel_rfl) (by decide) fun _=>⟨rfl,rfl⟩
def Zek:Con:=Yf 70 (fun x=>.cons (.rsl false 4 x.hd.ZC fun j=>Zk false (Y8 (x.hd.ZH j))) (.cons (.int false .i64 17) .nil)) (fun x=>.rsl false 4 (Z5 17 x.hd.ZC) fun j=>Zk false (Y8 (x.hd.ZH j))) (fun _=>True)
theorem ZjL:Zek.Ok P:=Yt fun x _=>ZiM _ _
theorem ZkQ (n:Nat) (r:Nat->Xz):Zi P 72 (.cons (.rsl false 5 n fun j=>ZG false (r j)) (.cons (.int false .i64 33) .nil)) (.rsl false 5 (Z5 33 n) fun j=>ZG false (r j)):=Ju 33 (Has.of hn Tryz.func72 rfl) (b:=32) (by kernel_rfl) (by decide) fun _=>⟨rfl,rfl⟩
def Zf1:Con:=Yf 72 (fun x=>.cons (.rsl false 5 x.hd.ZC fun j=>ZG false (JE (x.hd.ZH j))) (.cons (.int false .i64 33) .nil)) (fun x=>.rsl false 5 (Z5 33 x.hd.ZC) fun j=>ZG false (JE (x.hd.ZH j))) (fun _=>True)
theorem ZkW:Zf1.Ok P:=Yt fun x _=>ZkQ _ _
theorem Zk7 (n:Nat) (r:Nat->DT3):Zi P 73 (.cons (.rsl false 1 n fun j=>Ym false (r j)) (.cons (.int false .i64 17) .nil)) (.rsl false 1 (Z5 17 n) fun j=>Ym false (r j)):=Ju 17 (Has.of hn Tryz.func73 rfl) (b:=8) (by kernel_rfl) (by decide) fun _=>⟨rfl,rfl⟩
def Zbf:Con:=Yf 73 (fun x=>.cons (.rsl false 1 x.hd.ZC fun j=>Ym false (YF (x.hd.ZH j))) (.cons (.int false .i64 17) .nil)) (fun x=>.rsl false 1 (Z5 17 x.hd.ZC) fun j=>Ym false (YF (x.hd.ZH j))) (fun _=>True)
theorem Zf4:Zbf.Ok P:=Yt fun x _=>Zk7 _ _
theorem Ziz (n:Nat) (r:Nat->YM):Zi P 74 (.cons (.rsl false 3 n fun j=>Zl false (r j)) (.cons (.int false .i64 17) .nil)) (.rsl false 3 (Z5 17 n) fun j=>Zl false (r j)):=Ju 17 (Has.of hn Tryz.func74 rfl) (b:=24) (by kernel_rfl) (by decide) fun _=>⟨rfl,rfl⟩
def Zfe:Con:=Yf 74 (fun x=>.cons (.rsl false 3 x.hd.ZC fun j=>Zl false (ZO (x.hd.ZH j))) (.cons (.int false .i64 17) .nil)) (fun x=>.rsl false 3 (Z5 17 x.hd.ZC) fun j=>Zl false (ZO (x.hd.ZH j))) (fun _=>True)
theorem Zl9:Zfe.Ok P:=Yt fun x _=>Ziz _ _
theorem Zkp (n:Nat) (r:Nat->Vi):Zi P 75 (.cons (.rsl false 2 n fun j=>Zr false (r j)) (.cons (.int false .i64 33) .nil)) (.rsl false 2 (Z5 33 n) fun j=>Zr false (r j)):=Ju 33 (Has.of hn Tryz.func75 rfl) (b:=16) (by kernel_rfl) (by decide) fun _=>⟨rfl,rfl⟩
def Zex:Con:=Yf 75 (fun x=>.cons (.rsl false 2 x.hd.ZC fun j=>Zr false (G5 (x.hd.ZH j))) (.cons (.int false .i64 33) .nil)) (fun x=>.rsl false 2 (Z5 33 x.hd.ZC) fun j=>Zr false (G5 (x.hd.ZH j))) (fun _=>True)
theorem Zlq:Zex.Ok P:=Yt fun x _=>Zkp _ _
theorem ZkI (n:Nat) (r:Nat->DOwn):Zi P 76 (.cons (.rsl false 11 n fun j=>ZT false (r j)) (.cons (.int false .i64 17) .nil)) (.rsl false 11 (Z5 17 n) fun j=>ZT false (r j)):=Ju 17 (Has.of hn Tryz.func76 rfl) (b:=88) (by kernel_rfl) (by decide) fun _=>⟨rfl,rfl⟩
def Zf2:Con:=Yf 76 (fun x=>.cons (.rsl false 11 x.hd.ZC fun j=>ZT false (ZfA (x.hd.ZH j))) (.cons (.int false .i64 17) .nil)) (fun x=>.rsl false 11 (Z5 17 x.hd.ZC) fun j=>ZT false (ZfA (x.hd.ZH j))) (fun _=>True)
theorem Zjt:Zf2.Ok P:=Yt fun x _=>ZkI _ _
theorem ZjA (n:Nat) (r:Nat->ZK):Zi P 77 (.cons (.rsl false 2 n fun j=>ZN false (r j)) (.cons (.int false .i64 9) .nil)) (.rsl false 2 (Z5 9 n) fun j=>ZN false (r j)):=Ju 9 (Has.of hn Tryz.func77 rfl) (b:=16) (by kernel_rfl) (by decide) fun _=>⟨rfl,rfl⟩
def ZfD:Con:=Yf 77 (fun x=>.cons (.rsl false 2 x.hd.ZC fun j=>ZN false (WJ (x.hd.ZH j))) (.cons (.int false .i64 9) .nil)) (fun x=>.rsl false 2 (Z5 9 x.hd.ZC) fun j=>ZN false (WJ (x.hd.ZH j))) (fun _=>True)
theorem ZkZ:ZfD.Ok P:=Yt fun x _=>ZjA _ _
theorem Zlp (n:Nat) (r:Nat->DPut):Zi P 78 (.cons (.rsl false 2 n fun j=>Yq false (r j)) (.cons (.int false .i64 9) .nil)) (.rsl false 2 (Z5 9 n) fun j=>Yq false (r j)):=Ju 9 (Has.of hn Tryz.func78 rfl) (b:=16) (by kernel_rfl) (by decide) fun _=>⟨rfl,rfl⟩
def Zeb:Con:=Yf 78 (fun x=>.cons (.rsl false 2 x.hd.ZC fun j=>Yq false (ZfZ (x.hd.ZH j))) (.cons (.int false .i64 9) .nil)) (fun x=>.rsl false 2 (Z5 9 x.hd.ZC) fun j=>Yq false (ZfZ (x.hd.ZH j))) (fun _=>True)
theorem Zj9:Zeb.Ok P:=Yt fun x _=>Zlp _ _
abbrev own0V:V:=.cons (.int true .i64 0) (.cons (.int true .i64 0) (.cons (.int true .i64 0) (.cons (.int true .u32 0) (.cons (.int true .i64 0) (.cons (.int true .u64 0) (.cons (.int true .u64 0) (.cons (.int true .u64 0) (.cons (.int true .u64 0) (.cons (.int true .i64 0) (.cons (.int true .i64 0) .nil))))))))))
theorem Ga {a:Zb} (h:Zv a = 0):VX (Zh a) = true/\Vq (Zh a) = true/\Vp (Zh a) = true/\Gv (Zh a) = true/\U2 (Zh a) = true/\GH (Zh a) = true:=by
 unfold Zv at h
 cases h1:VX (Zh a) with
 | false=>rw [h1] at h; cases h
 | true=>
 cases h2:Vq (Zh a) with
 | false=>rw [h1,h2] at h; cases h
 | true=>
 cases h3:Vp (Zh a) with
 | false=>rw [h1,h2,h3] at h; cases h
 | true=>
 cases h4:Gv (Zh a) with
 | false=>rw [h1,h2,h3,h4] at h; cases h
 | true=>
 cases h5:U2 (Zh a) with
 | false=>rw [h1,h2,h3,h4,h5] at h; cases h
 | true=>
 cases h6:GH (Zh a) with
 | false=>rw [h1,h2,h3,h4,h5,h6] at h; cases h
 | true=>exact ⟨rfl,rfl,rfl,rfl,rfl,rfl⟩
def XF (d:Zc) (b:Int):Int:=bif d.hh b then d.hg b else 0
def X5 (d:Zc) (b:Int):Int:=bif d.oh b then d.og b else 0
theorem GJ {a:Zb} (h:Zv a = 0) (hn:0 < a.n6):∀ b:Int,0<=XF (Zh a) b/\XF (Zh a) b < a.n3:=by
 obtain ⟨h1,h2,h3,_⟩:=Ga h
 have h64:a.n6 = a.n4:=ZeT h3
 exact look_HH a (ZhT (Zdp h1).1 (by show 0 < a.n4; omega))
theorem Ue {a:Zb} (h:Zv a = 0):a.n6 = a.n4/\a.n7 = a.n3:=by
 obtain ⟨h1,h2,h3,_⟩:=Ga h
 exact ⟨ZeT h3,(ZeH h2).1⟩
theorem fine_pool {a:Zb} (h:Zv a = 0):∀ j,j < a.n3->0<=(a.r3 j).f3/\(a.r3 j).f3 < a.n2:=fun j hj=>by
 obtain ⟨h1,h2,h3,_⟩:=Ga h
 exact ⟨ZhN (Zdp h1).1 j hj,(ZeH h2).2 j hj⟩
theorem oh_pos {a:Zb} {b:Int} (h:(Zh a).oh b = true):0 < a.n6:=by
 have:=ZaC a b h
 have h2:(Zh a).og b < (a.n6:Int):=this.2
 have h1:=this.1
 omega
def Qg (a:Zb) (b:Int):Bool:=(Zh a).oh b&&(Zv a==0)
theorem q_is_of {a:Zb} {b:Int} (h1:(bif !(Zh a).oh b then true else false) = false) (h2:(bif Zv a != (0:Int) then true else false) = false):(Zh a).oh b = true/\Zv a = 0:=by
 have h1:=nT (nf4 h1)
 have h2:=nf4 h2
 rw [bne] at h2
 exact ⟨h1,eqT (nT h2)⟩
theorem q_no1 {a:Zb} {b:Int} (h1:(bif !(Zh a).oh b then true else false) = true):Qg a b = false:=by
 unfold Qg
 cases h:(Zh a).oh b with
 | false=>rfl
 | true=>rw [h] at h1; cases h1
theorem q_no2 {a:Zb} {b:Int} (h1:(bif Zv a != (0:Int) then true else false) = true):Qg a b = false:=by
 unfold Qg
 cases h:(Zv a==0) with
 | false=>cases (Zh a).oh b <;> rfl
 | true=>rw [bne,h] at h1; cases h1
theorem q_yes {a:Zb} {b:Int} (h1:(Zh a).oh b = true) (h2:Zv a = 0):Qg a b = true:=by unfold Qg; rw [h1,h2]; rfl
def V9 (a:Zb) (b:Int):DOwn:=bif Qg a b then a.r6 (X5 (Zh a) b).toNat else own0
theorem own_tree (ck:Zb->Int) (a:Zb) (b:Int) (d:Zc):ZQ (askE ck a d) 400 24 (.cons (.agg (Zt false a)) (.cons (.int false .i64 b) .nil)) =
  .need (Zt false a = Zt false a) (.node (bif !d.oh b then true else false) (.leaf (.tup (.cons (.agg own0V) (.cons (.bool true false) .nil))))
   (.need ((0:Int)<=X5 d b/\X5 d b < ((d.a.n6:Nat):Int)) (.need (V.cons (V.agg (Zt false a)) V.nil = V.cons (V.agg (Zt false a)) V.nil/\small a)
    (.node (bif ck a != (0:Int) then true else false) (.leaf (.tup (.cons (.agg own0V) (.cons (.bool true false) .nil))))
     (.leaf (.tup (.cons (.agg (ZT false (d.a.r6 (X5 d b).toNat))) (.cons (.bool true true) .nil)))))))):=by kernel_rfl
theorem own_ix {a:Zb} {b:Int} (h:(bif !(Zh a).oh b then true else false) = false):(0:Int)<=X5 (Zh a) b/\X5 (Zh a) b < (((Zh a).a.n6:Nat):Int):=by
 have h1:=nT (nf4 h)
 unfold X5
 rw [h1]
 exact ZaC a b h1
theorem own_meets (a:Zb) (b:Int) (h:small a):Zi P 24 (.cons (.agg (Zt false a)) (.cons (.int false .i64 b) .nil)) (.tup (.cons (.agg (ZT false (V9 a b))) (.cons (.bool false (Qg a b)) .nil))):=by
 refine meets (Zev a h) 400 (Has.of hn Tryz.func24 rfl) (own_tree Zv a b (Zh a)) ?_
 refine ⟨rfl,fun hb=>?_,fun hb=>⟨own_ix hb,⟨rfl,h⟩,fun hc=>?_,fun hc=>?_⟩⟩
 ·exact ⟨rfl,by unfold V9; rw [q_no1 hb]; rfl⟩
 ·exact ⟨rfl,by unfold V9; rw [q_no2 hc]; rfl⟩
 ·have e:=q_is_of hb hc
  exact ⟨rfl,by unfold V9; rw [q_yes e.1 e.2]; rfl⟩
def VJ (a:Zb) (b:Int):Int:=bif Qg a b then (a.r3 (XF (Zh a) b).toNat).f3 else 0
theorem pool_tree (ck:Zb->Int) (a:Zb) (b:Int) (d:Zc):ZQ (askE ck a d) 400 26 (.cons (.agg (Zt false a)) (.cons (.int false .i64 b) .nil)) =
  .need (Zt false a = Zt false a) (.node (bif !d.oh b then true else false) (.leaf (.tup (.cons (.int true .i64 0) (.cons (.bool true false) .nil))))
   (.need ((0:Int)<=X5 d b/\X5 d b < ((d.a.n6:Nat):Int)) (.need (V.cons (V.agg (Zt false a)) V.nil = V.cons (V.agg (Zt false a)) V.nil/\small a)
    (.node (bif ck a != (0:Int) then true else false) (.leaf (.tup (.cons (.int true .i64 0) (.cons (.bool true false) .nil))))
     (.need ((0:Int)<=XF d b/\XF d b < ((a.n3:Nat):Int)) (.leaf (.tup (.cons (.int false .i64 (a.r3 (XF d b).toNat).f3) (.cons (.bool true true) .nil))))))))):=by kernel_rfl
theorem ZlP (a:Zb) (b:Int) (h:small a):Zi P 26 (.cons (.agg (Zt false a)) (.cons (.int false .i64 b) .nil)) (.tup (.cons (.int false .i64 (VJ a b)) (.cons (.bool false (Qg a b)) .nil))):=by
 refine meets (Zev a h) 400 (Has.of hn Tryz.func26 rfl) (pool_tree Zv a b (Zh a)) ?_
 refine ⟨rfl,fun hb=>?_,fun hb=>⟨own_ix hb,⟨rfl,h⟩,fun hc=>?_,fun hc=>?_⟩⟩
 ·exact ⟨rfl,by unfold VJ; rw [q_no1 hb]; rfl⟩
 ·exact ⟨rfl,by unfold VJ; rw [q_no2 hc]; rfl⟩
 ·have e:=q_is_of hb hc
  exact ⟨GJ e.2 (oh_pos e.1) b,rfl,by unfold VJ; rw [q_yes e.1 e.2]; rfl⟩
def askBk (ck:Zb->Int) (bd:ZK->Bool) (a:Zb) (d:Zc):Env:={ (Zn P [Jk ck,XK bd] [] true) with hk:=WR [⟨61,Jg a d⟩] }
theorem askBk_ok (a:Zb) (h:small a):(askBk Zv YN a (Zh a)).Ok:=(Zu hm hn (l:=[Jk Zv,XK YN]) ⟨Gn,Uw,trivial⟩ (ls:=[]) trivial true).JU (l:=[⟨61,Jg a (Zh a)⟩]) ⟨Zba a h.2.2.1 h.2.2.2.1 h.2.2.2.2.2.1 h.2.2.2.2.2.2.2.2.2.1,trivial⟩
def K3 (a:Zb) (b:Int):Bool:=Qg a b&&YN (a.r7 (XF (Zh a) b).toNat)
theorem park_tree (ck:Zb->Int) (bd:ZK->Bool) (a:Zb) (b:Int) (d:Zc):ZQ (askBk ck bd a d) 400 31 (.cons (.agg (Zt false a)) (.cons (.int false .i64 b) .nil)) =
  .need (Zt false a = Zt false a) (.node (bif !d.oh b then true else false) (.leaf (.bool true false))
   (.need ((0:Int)<=X5 d b/\X5 d b < ((d.a.n6:Nat):Int)) (.need (V.cons (V.agg (Zt false a)) V.nil = V.cons (V.agg (Zt false a)) V.nil/\small a)
    (.node (ck a==(0:Int)) (.need ((0:Int)<=XF d b/\XF d b < ((d.a.n7:Nat):Int)) (.leaf (.bool false (bd (d.a.r7 (XF d b).toNat))))) (.leaf (.bool true false)))))):=by kernel_rfl
theorem Zle (a:Zb) (b:Int) (h:small a):Zi P 31 (.cons (.agg (Zt false a)) (.cons (.int false .i64 b) .nil)) (.bool false (K3 a b)):=by
 refine meets (askBk_ok a h) 400 (Has.of hn Tryz.func31 rfl) (park_tree Zv YN a b (Zh a)) ?_
 refine ⟨rfl,fun hb=>?_,fun hb=>⟨own_ix hb,⟨rfl,h⟩,fun hc=>?_,fun hc=>?_⟩⟩
 ·exact ⟨rfl,by unfold K3; rw [q_no1 hb]; rfl⟩
 ·have e:=nT (nf4 hb)
  have hc:=eqT hc
  refine ⟨?_,rfl,by unfold K3; rw [q_yes e hc]; rfl⟩
  have:=GJ hc (oh_pos e) b
  have e7:(Zh a).a.n7 = a.n3:=(Ue hc).2
  rw [e7]; exact this
 ·have e:K3 a b = false:=by unfold K3 Qg; rw [hc]; cases (Zh a).oh b <;> rfl
  exact ⟨rfl,by rw [e]; rfl⟩
end Go.Proofs.YtnjjailadijdlaaGreatDoor
end
