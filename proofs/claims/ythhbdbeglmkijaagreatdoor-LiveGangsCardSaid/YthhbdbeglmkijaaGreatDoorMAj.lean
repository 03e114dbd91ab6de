/- Contracts of functions over rows. Written by a program of ours (wip/gen/con3.py). -/
import Derived.Test.YthhbdbeglmkijaaGreatDoorMAh
import Derived.Test.YthhbdbeglmkijaaGreatDoorMAi
set_option maxRecDepth 100000
set_option linter.unusedVariables false
set_option linter.unusedSimpArgs false
noncomputable section
open Bool renaming true→ze,false→za,and_eq_true→zL
open Nat renaming ble→zK,le_refl→zI
namespace Go.Proofs.YthhbdbeglmkijaaGreatDoor
open Go.Fw
def Zg3(a:VW):V:=(Ya (ZM P [] []) (Yc []) 400 56 (.cons (.agg (WW ze a)) .nil)).join
theorem tCheck_p0(a:VW):(Xc 10 λc=>(Ya (ZM P [] []) (Yc []) 400 56 (.cons (.agg (WW ze { a with n0:=(0+c) })) .nil)).total&&((Ya (ZM P [] []) (Yc []) 400 56 (.cons (.agg (WW ze { a with n0:=(0+c) })) .nil)).YO&&Y8 (.int za .i64 0) (Ya (ZM P [] []) (Yc []) 400 56 (.cons (.agg (WW ze { a with n0:=(0+c) })) .nil)).join))=ze:=by kernel_rfl
theorem ZrA(a:VW)(h0:a.n0<=9):Zh P 56 (.cons (.agg (WW ze a)) .nil) (YA (.int za .i64 0) (Zg3 a)):=by
 have key:∀c,c<10->Zh P 56 (.cons (.agg (WW ze { a with n0:=c })) .nil) (YA (.int za .i64 0) (Ya (ZM P [] []) (Yc []) 400 56 (.cons (.agg (WW ze { a with n0:=c })) .nil)).join):=λc hc=>by
  exact J2 0 10 XB (Yz hm hn (l:=[]) trivial) rfl 400 (.int za .i64 0) (args:=λc=>(.cons (.agg (WW ze { a with n0:=c })) .nil)) (Has.of hn Tryz.func56 rfl) (tCheck_p0 a) (by omega) (by omega)
 have hc:=key (a.n0) (by omega)
 exact hc
def QN:Con:=Qy 56 (.cons (.agg Zmc) .nil) (λx=>zK (JU x.hd.inner).n0 9) (λx=>YA (.int za .i64 0) (Zg3 (JU x.hd.inner))) (λx=>(.cons (.agg (WW ze (JU x.hd.inner))) .nil)) (λx=>(JU x.hd.inner).n0<=9)
theorem Zke:QN.Ok P:=QO (λ_=>rfl) (λx h=>by simp only[zL,Nat.ble_eq]at h⊢;omega) (λx h=>ZrA _ h)
def Ux(a:Zj):V:=(Ya (ZM P [] []) (Yc []) 400 42 (.cons (.agg (WV ze a)) .nil)).join
theorem pCheck_p0(a:Zj):(Xc 6 λc=>(Ya (ZM P [] []) (Yc []) 400 42 (.cons (.agg (WV ze { a with n0:=(0+c) })) .nil)).total&&((Ya (ZM P [] []) (Yc []) 400 42 (.cons (.agg (WV ze { a with n0:=(0+c) })) .nil)).YO&&Y8 (.int za .i64 0) (Ya (ZM P [] []) (Yc []) 400 42 (.cons (.agg (WV ze { a with n0:=(0+c) })) .nil)).join))=ze:=by kernel_rfl
theorem ZqX(a:Zj)(h0:a.n0<=5):Zh P 42 (.cons (.agg (WV ze a)) .nil) (YA (.int za .i64 0) (Ux a)):=by
 have key:∀c,c<6->Zh P 42 (.cons (.agg (WV ze { a with n0:=c })) .nil) (YA (.int za .i64 0) (Ya (ZM P [] []) (Yc []) 400 42 (.cons (.agg (WV ze { a with n0:=c })) .nil)).join):=λc hc=>by
  exact J2 0 6 XB (Yz hm hn (l:=[]) trivial) rfl 400 (.int za .i64 0) (args:=λc=>(.cons (.agg (WV ze { a with n0:=c })) .nil)) (Has.of hn Tryz.func42 rfl) (pCheck_p0 a) (by omega) (by omega)
 have hc:=key (a.n0) (by omega)
 exact hc
def QM:Con:=Qy 42 (.cons (.agg Zma) .nil) (λx=>zK (Ym x.hd.inner).n0 5) (λx=>YA (.int za .i64 0) (Ux (Ym x.hd.inner))) (λx=>(.cons (.agg (WV ze (Ym x.hd.inner))) .nil)) (λx=>(Ym x.hd.inner).n0<=5)
theorem Zka:QM.Ok P:=QO (λ_=>rfl) (λx h=>by simp only[zL,Nat.ble_eq]at h⊢;omega) (λx h=>ZqX _ h)
def dMay_V(a:Z6):V:=(Ya (ZM P [] []) (Yc []) 400 94 (.cons (.agg (Zv ze a)) .nil)).join
theorem dMay_p0(a:Z6):(Xc 1 λc=>(Ya (ZM P [] []) (Yc []) 400 94 (.cons (.agg (Zv ze a)) .nil)).total&&((Ya (ZM P [] []) (Yc []) 400 94 (.cons (.agg (Zv ze a)) .nil)).YO&&Y8 (.bool za za) (Ya (ZM P [] []) (Yc []) 400 94 (.cons (.agg (Zv ze a)) .nil)).join))=ze:=by kernel_rfl
theorem ZoO(a:Z6) : Zh P 94 (.cons (.agg (Zv ze a)) .nil) (YA (.bool za za) (dMay_V a)):=by
 exact J2 0 1 XB (Yz hm hn (l:=[]) trivial) rfl 400 (.bool za za) (args:=λc=>(.cons (.agg (Zv ze a)) .nil)) (Has.of hn Tryz.func94 rfl) (dMay_p0 a) (c:=0) (zI _) (by omega)
def UW:Con:=Qy 94 (.cons (.agg Zl7) .nil) (λx=>ze) (λx=>YA (.bool za za) (dMay_V (XQ x.hd.inner))) (λx=>(.cons (.agg (Zv ze (XQ x.hd.inner))) .nil)) (λx=>True)
theorem ZhK:UW.Ok P:=QO (λ_=>rfl) (λx h=>by trivial) (λx h=>ZoO _ )
def ZmI(a:Y3):V:=(Ya (ZM P [] []) (Yc []) 400 45 (.cons (.agg (Xt ze a)) .nil)).join
theorem wCheck_p0(a:Y3):(Xc 1 λc=>(Ya (ZM P [] []) (Yc []) 400 45 (.cons (.agg (Xt ze a)) .nil)).total&&((Ya (ZM P [] []) (Yc []) 400 45 (.cons (.agg (Xt ze a)) .nil)).YO&&Y8 (.int za .i64 0) (Ya (ZM P [] []) (Yc []) 400 45 (.cons (.agg (Xt ze a)) .nil)).join))=ze:=by kernel_rfl
theorem Zr1(a:Y3) : Zh P 45 (.cons (.agg (Xt ze a)) .nil) (YA (.int za .i64 0) (ZmI a)):=by
 exact J2 0 1 XB (Yz hm hn (l:=[]) trivial) rfl 400 (.int za .i64 0) (args:=λc=>(.cons (.agg (Xt ze a)) .nil)) (Has.of hn Tryz.func45 rfl) (wCheck_p0 a) (c:=0) (zI _) (by omega)
def ZaK:Con:=Qy 45 (.cons (.agg Zi8) .nil) (λx=>ze) (λx=>YA (.int za .i64 0) (ZmI (Je x.hd.inner))) (λx=>(.cons (.agg (Xt ze (Je x.hd.inner))) .nil)) (λx=>True)
theorem Zki:ZaK.Ok P:=QO (λ_=>rfl) (λx h=>by trivial) (λx h=>Zr1 _ )
def Zjp(a:Y3):V:=(Ya (ZM P [] []) (Yc []) 400 15 (.cons (.agg (Xt ze a)) .nil)).join
theorem wRuns_p0(a:Y3):(Xc 1 λc=>(Ya (ZM P [] []) (Yc []) 400 15 (.cons (.agg (Xt ze a)) .nil)).total&&((Ya (ZM P [] []) (Yc []) 400 15 (.cons (.agg (Xt ze a)) .nil)).YO&&Y8 (.bool za za) (Ya (ZM P [] []) (Yc []) 400 15 (.cons (.agg (Xt ze a)) .nil)).join))=ze:=by kernel_rfl
theorem Zr3(a:Y3) : Zh P 15 (.cons (.agg (Xt ze a)) .nil) (YA (.bool za za) (Zjp a)):=by
 exact J2 0 1 XB (Yz hm hn (l:=[]) trivial) rfl 400 (.bool za za) (args:=λc=>(.cons (.agg (Xt ze a)) .nil)) (Has.of hn Tryz.func15 rfl) (wRuns_p0 a) (c:=0) (zI _) (by omega)
def JH:Con:=Qy 15 (.cons (.agg Zi8) .nil) (λx=>ze) (λx=>YA (.bool za za) (Zjp (Je x.hd.inner))) (λx=>(.cons (.agg (Xt ze (Je x.hd.inner))) .nil)) (λx=>True)
theorem Zct:JH.Ok P:=QO (λ_=>rfl) (λx h=>by trivial) (λx h=>Zr3 _ )
def wDue_V(a:Y3):V:=(Ya (ZM P [] []) (Yc []) 400 70 (.cons (.agg (Xt ze a)) .nil)).join
theorem wDue_p0(a:Y3):(Xc 1 λc=>(Ya (ZM P [] []) (Yc []) 400 70 (.cons (.agg (Xt ze a)) .nil)).total&&((Ya (ZM P [] []) (Yc []) 400 70 (.cons (.agg (Xt ze a)) .nil)).YO&&Y8 (.tup (.cons (.int za .i64 0) (.cons (.bool za za) .nil))) (Ya (ZM P [] []) (Yc []) 400 70 (.cons (.agg (Xt ze a)) .nil)).join))=ze:=by kernel_rfl
theorem Zr2(a:Y3) : Zh P 70 (.cons (.agg (Xt ze a)) .nil) (YA (.tup (.cons (.int za .i64 0) (.cons (.bool za za) .nil))) (wDue_V a)):=by
 exact J2 0 1 XB (Yz hm hn (l:=[]) trivial) rfl 400 (.tup (.cons (.int za .i64 0) (.cons (.bool za za) .nil))) (args:=λc=>(.cons (.agg (Xt ze a)) .nil)) (Has.of hn Tryz.func70 rfl) (wDue_p0 a) (c:=0) (zI _) (by omega)
def ZaL:Con:=Qy 70 (.cons (.agg Zi8) .nil) (λx=>ze) (λx=>YA (.tup (.cons (.int za .i64 0) (.cons (.bool za za) .nil))) (wDue_V (Je x.hd.inner))) (λx=>(.cons (.agg (Xt ze (Je x.hd.inner))) .nil)) (λx=>True)
theorem Zkj:ZaL.Ok P:=QO (λ_=>rfl) (λx h=>by trivial) (λx h=>Zr2 _ )
def ZjQ(a:Q9):V:=(Ya (ZM P [] []) (Yc []) 400 61 (.cons (.agg (Z0 ze a)) .nil)).join
theorem bCheck_p0(a:Q9):(Xc 1 λc=>(Ya (ZM P [] []) (Yc []) 400 61 (.cons (.agg (Z0 ze a)) .nil)).total&&((Ya (ZM P [] []) (Yc []) 400 61 (.cons (.agg (Z0 ze a)) .nil)).YO&&Y8 (.int za .i64 0) (Ya (ZM P [] []) (Yc []) 400 61 (.cons (.agg (Z0 ze a)) .nil)).join))=ze:=by kernel_rfl
theorem Zns(a:Q9) : Zh P 61 (.cons (.agg (Z0 ze a)) .nil) (YA (.int za .i64 0) (ZjQ a)):=by
 exact J2 0 1 XB (Yz hm hn (l:=[]) trivial) rfl 400 (.int za .i64 0) (args:=λc=>(.cons (.agg (Z0 ze a)) .nil)) (Has.of hn Tryz.func61 rfl) (bCheck_p0 a) (c:=0) (zI _) (by omega)
def Zav:Con:=Qy 61 (.cons (.agg Zi7) .nil) (λx=>ze) (λx=>YA (.int za .i64 0) (ZjQ (Vw x.hd.inner))) (λx=>(.cons (.agg (Z0 ze (Vw x.hd.inner))) .nil)) (λx=>True)
theorem ZjY:Zav.Ok P:=QO (λ_=>rfl) (λx h=>by trivial) (λx h=>Zns _ )
def bDry_V(a:Q9):V:=(Ya (ZM P [] []) (Yc []) 400 118 (.cons (.agg (Z0 ze a)) .nil)).join
theorem bDry_p0(a:Q9):(Xc 1 λc=>(Ya (ZM P [] []) (Yc []) 400 118 (.cons (.agg (Z0 ze a)) .nil)).total&&((Ya (ZM P [] []) (Yc []) 400 118 (.cons (.agg (Z0 ze a)) .nil)).YO&&Y8 (.bool za za) (Ya (ZM P [] []) (Yc []) 400 118 (.cons (.agg (Z0 ze a)) .nil)).join))=ze:=by kernel_rfl
theorem Znt(a:Q9) : Zh P 118 (.cons (.agg (Z0 ze a)) .nil) (YA (.bool za za) (bDry_V a)):=by
 exact J2 0 1 XB (Yz hm hn (l:=[]) trivial) rfl 400 (.bool za za) (args:=λc=>(.cons (.agg (Z0 ze a)) .nil)) (Has.of hn Tryz.func118 rfl) (bDry_p0 a) (c:=0) (zI _) (by omega)
def Zaw:Con:=Qy 118 (.cons (.agg Zi7) .nil) (λx=>ze) (λx=>YA (.bool za za) (bDry_V (Vw x.hd.inner))) (λx=>(.cons (.agg (Z0 ze (Vw x.hd.inner))) .nil)) (λx=>True)
theorem ZjZ:Zaw.Ok P:=QO (λ_=>rfl) (λx h=>by trivial) (λx h=>Znt _ )
def ZkM(a:DFrac):V:=(Ya (ZM P [] []) (Yc []) 400 67 (.cons (.agg (U6 ze a)) .nil)).join
theorem fCheck_p0(a:DFrac):(Xc 1 λc=>(Ya (ZM P [] []) (Yc []) 400 67 (.cons (.agg (U6 ze a)) .nil)).total&&((Ya (ZM P [] []) (Yc []) 400 67 (.cons (.agg (U6 ze a)) .nil)).YO&&Y8 (.int za .i64 0) (Ya (ZM P [] []) (Yc []) 400 67 (.cons (.agg (U6 ze a)) .nil)).join))=ze:=by kernel_rfl
theorem ZpF(a:DFrac) : Zh P 67 (.cons (.agg (U6 ze a)) .nil) (YA (.int za .i64 0) (ZkM a)):=by
 exact J2 0 1 XB (Yz hm hn (l:=[]) trivial) rfl 400 (.int za .i64 0) (args:=λc=>(.cons (.agg (U6 ze a)) .nil)) (Has.of hn Tryz.func67 rfl) (fCheck_p0 a) (c:=0) (zI _) (by omega)
def ZaB:Con:=Qy 67 (.cons (.agg patDFrac) .nil) (λx=>ze) (λx=>YA (.int za .i64 0) (ZkM (Zlc x.hd.inner))) (λx=>(.cons (.agg (U6 ze (Zlc x.hd.inner))) .nil)) (λx=>True)
theorem Zj3:ZaB.Ok P:=QO (λ_=>rfl) (λx h=>by trivial) (λx h=>ZpF _ )
def ZlJ(a:DMask):V:=(Ya (ZM P [] []) (Yc []) 400 97 (.cons (.agg (U7 ze a)) .nil)).join
theorem mCheck_p0(a:DMask):(Xc 1 λc=>(Ya (ZM P [] []) (Yc []) 400 97 (.cons (.agg (U7 ze a)) .nil)).total&&((Ya (ZM P [] []) (Yc []) 400 97 (.cons (.agg (U7 ze a)) .nil)).YO&&Y8 (.int za .i64 0) (Ya (ZM P [] []) (Yc []) 400 97 (.cons (.agg (U7 ze a)) .nil)).join))=ze:=by kernel_rfl
theorem Zqt(a:DMask) : Zh P 97 (.cons (.agg (U7 ze a)) .nil) (YA (.int za .i64 0) (ZlJ a)):=by
 exact J2 0 1 XB (Yz hm hn (l:=[]) trivial) rfl 400 (.int za .i64 0) (args:=λc=>(.cons (.agg (U7 ze a)) .nil)) (Has.of hn Tryz.func97 rfl) (mCheck_p0 a) (c:=0) (zI _) (by omega)
def U4:Con:=Qy 97 (.cons (.agg patDMask) .nil) (λx=>ze) (λx=>YA (.int za .i64 0) (ZlJ (Zld x.hd.inner))) (λx=>(.cons (.agg (U7 ze (Zld x.hd.inner))) .nil)) (λx=>True)
theorem ZhR:U4.Ok P:=QO (λ_=>rfl) (λx h=>by trivial) (λx h=>Zqt _ )
end Go.Proofs.YthhbdbeglmkijaaGreatDoor
end
