/- Contracts of functions over rows. Written by a program of ours (wip/gen/con3.py). -/
import Derived.Test.YthhbdbeglmkijaaGreatDoorMAh
import Derived.Test.YthhbdbeglmkijaaGreatDoorMAi
set_option maxRecDepth 100000
set_option linter.unusedVariables false
set_option linter.unusedSimpArgs false
noncomputable section
open Bool renaming true→ze,false→za,and_eq_true→zM
open Nat renaming ble→zK,le_refl→zJ
namespace Go.Proofs.YthhbdbeglmkijaaGreatDoor
open Go.Fw
def Zhl(a:Ud):V:=(Yd (ZN P [] []) (Yf []) 400 56 (.cons (.agg (Qj ze a)) .nil)).join
theorem tCheck_p0(a:Ud):(Xl 10 λc=>(Yd (ZN P [] []) (Yf []) 400 56 (.cons (.agg (Qj ze { a with n0:=(0+c) })) .nil)).total&&((Yd (ZN P [] []) (Yf []) 400 56 (.cons (.agg (Qj ze { a with n0:=(0+c) })) .nil)).Y1&&Xe (.int za .i64 0) (Yd (ZN P [] []) (Yf []) 400 56 (.cons (.agg (Qj ze { a with n0:=(0+c) })) .nil)).join))=ze:=by kernel_rfl
theorem ZrH(a:Ud)(h0:a.n0<=9):Zi P 56 (.cons (.agg (Qj ze a)) .nil) (YM (.int za .i64 0) (Zhl a)):=by
 have key:∀c,c<10->Zi P 56 (.cons (.agg (Qj ze { a with n0:=c })) .nil) (YM (.int za .i64 0) (Yd (ZN P [] []) (Yf []) 400 56 (.cons (.agg (Qj ze { a with n0:=c })) .nil)).join):=λc hc=>by
  exact Kz 0 10 XK (YJ hm hn (l:=[]) trivial) rfl 400 (.int za .i64 0) (args:=λc=>(.cons (.agg (Qj ze { a with n0:=c })) .nil)) (Has.of hn Tryz.func56 rfl) (tCheck_p0 a) (by omega) (by omega)
 have hc:=key (a.n0) (by omega)
 exact hc
def Jc:Con:=QA 56 (.cons (.agg Zml) .nil) (λx=>zK (Ku x.hd.inner).n0 9) (λx=>YM (.int za .i64 0) (Zhl (Ku x.hd.inner))) (λx=>(.cons (.agg (Qj ze (Ku x.hd.inner))) .nil)) (λx=>(Ku x.hd.inner).n0<=9)
theorem Zkp:Jc.Ok P:=Jf (λ_=>rfl) (λx h=>by simp only[zM,Nat.ble_eq]at h⊢;omega) (λx h=>ZrH _ h)
def Wo(a:Zg):V:=(Yd (ZN P [] []) (Yf []) 400 42 (.cons (.agg (Y7 ze a)) .nil)).join
theorem pCheck_p0(a:Zg):(Xl 6 λc=>(Yd (ZN P [] []) (Yf []) 400 42 (.cons (.agg (Y7 ze { a with n0:=(0+c) })) .nil)).total&&((Yd (ZN P [] []) (Yf []) 400 42 (.cons (.agg (Y7 ze { a with n0:=(0+c) })) .nil)).Y1&&Xe (.int za .i64 0) (Yd (ZN P [] []) (Yf []) 400 42 (.cons (.agg (Y7 ze { a with n0:=(0+c) })) .nil)).join))=ze:=by kernel_rfl
theorem ZqV(a:Zg)(h0:a.n0<=5):Zi P 42 (.cons (.agg (Y7 ze a)) .nil) (YM (.int za .i64 0) (Wo a)):=by
 have key:∀c,c<6->Zi P 42 (.cons (.agg (Y7 ze { a with n0:=c })) .nil) (YM (.int za .i64 0) (Yd (ZN P [] []) (Yf []) 400 42 (.cons (.agg (Y7 ze { a with n0:=c })) .nil)).join):=λc hc=>by
  exact Kz 0 6 XK (YJ hm hn (l:=[]) trivial) rfl 400 (.int za .i64 0) (args:=λc=>(.cons (.agg (Y7 ze { a with n0:=c })) .nil)) (Has.of hn Tryz.func42 rfl) (pCheck_p0 a) (by omega) (by omega)
 have hc:=key (a.n0) (by omega)
 exact hc
def WG:Con:=QA 42 (.cons (.agg ZgV) .nil) (λx=>zK (Z0 x.hd.inner).n0 5) (λx=>YM (.int za .i64 0) (Wo (Z0 x.hd.inner))) (λx=>(.cons (.agg (Y7 ze (Z0 x.hd.inner))) .nil)) (λx=>(Z0 x.hd.inner).n0<=5)
theorem Zfr:WG.Ok P:=Jf (λ_=>rfl) (λx h=>by simp only[zM,Nat.ble_eq]at h⊢;omega) (λx h=>ZqV _ h)
def dMay_V(a:Z6):V:=(Yd (ZN P [] []) (Yf []) 400 94 (.cons (.agg (Zr ze a)) .nil)).join
theorem dMay_p0(a:Z6):(Xl 1 λc=>(Yd (ZN P [] []) (Yf []) 400 94 (.cons (.agg (Zr ze a)) .nil)).total&&((Yd (ZN P [] []) (Yf []) 400 94 (.cons (.agg (Zr ze a)) .nil)).Y1&&Xe (.bool za za) (Yd (ZN P [] []) (Yf []) 400 94 (.cons (.agg (Zr ze a)) .nil)).join))=ze:=by kernel_rfl
theorem ZoR(a:Z6) : Zi P 94 (.cons (.agg (Zr ze a)) .nil) (YM (.bool za za) (dMay_V a)):=by
 exact Kz 0 1 XK (YJ hm hn (l:=[]) trivial) rfl 400 (.bool za za) (args:=λc=>(.cons (.agg (Zr ze a)) .nil)) (Has.of hn Tryz.func94 rfl) (dMay_p0 a) (c:=0) (zJ _) (by omega)
def Gc:Con:=QA 94 (.cons (.agg Zmi) .nil) (λx=>ze) (λx=>YM (.bool za za) (dMay_V (YT x.hd.inner))) (λx=>(.cons (.agg (Zr ze (YT x.hd.inner))) .nil)) (λx=>True)
theorem ZhZ:Gc.Ok P:=Jf (λ_=>rfl) (λx h=>by trivial) (λx h=>ZoR _ )
def ZmT(a:YD):V:=(Yd (ZN P [] []) (Yf []) 400 45 (.cons (.agg (XC ze a)) .nil)).join
theorem wCheck_p0(a:YD):(Xl 1 λc=>(Yd (ZN P [] []) (Yf []) 400 45 (.cons (.agg (XC ze a)) .nil)).total&&((Yd (ZN P [] []) (Yf []) 400 45 (.cons (.agg (XC ze a)) .nil)).Y1&&Xe (.int za .i64 0) (Yd (ZN P [] []) (Yf []) 400 45 (.cons (.agg (XC ze a)) .nil)).join))=ze:=by kernel_rfl
theorem Zr8(a:YD) : Zi P 45 (.cons (.agg (XC ze a)) .nil) (YM (.int za .i64 0) (ZmT a)):=by
 exact Kz 0 1 XK (YJ hm hn (l:=[]) trivial) rfl 400 (.int za .i64 0) (args:=λc=>(.cons (.agg (XC ze a)) .nil)) (Has.of hn Tryz.func45 rfl) (wCheck_p0 a) (c:=0) (zJ _) (by omega)
def ZaS:Con:=QA 45 (.cons (.agg ZgW) .nil) (λx=>ze) (λx=>YM (.int za .i64 0) (ZmT (QB x.hd.inner))) (λx=>(.cons (.agg (XC ze (QB x.hd.inner))) .nil)) (λx=>True)
theorem Zkt:ZaS.Ok P:=Jf (λ_=>rfl) (λx h=>by trivial) (λx h=>Zr8 _ )
def ZjH(a:YD):V:=(Yd (ZN P [] []) (Yf []) 400 15 (.cons (.agg (XC ze a)) .nil)).join
theorem wRuns_p0(a:YD):(Xl 1 λc=>(Yd (ZN P [] []) (Yf []) 400 15 (.cons (.agg (XC ze a)) .nil)).total&&((Yd (ZN P [] []) (Yf []) 400 15 (.cons (.agg (XC ze a)) .nil)).Y1&&Xe (.bool za za) (Yd (ZN P [] []) (Yf []) 400 15 (.cons (.agg (XC ze a)) .nil)).join))=ze:=by kernel_rfl
theorem Zsa(a:YD) : Zi P 15 (.cons (.agg (XC ze a)) .nil) (YM (.bool za za) (ZjH a)):=by
 exact Kz 0 1 XK (YJ hm hn (l:=[]) trivial) rfl 400 (.bool za za) (args:=λc=>(.cons (.agg (XC ze a)) .nil)) (Has.of hn Tryz.func15 rfl) (wRuns_p0 a) (c:=0) (zJ _) (by omega)
def Ki:Con:=QA 15 (.cons (.agg ZgW) .nil) (λx=>ze) (λx=>YM (.bool za za) (ZjH (QB x.hd.inner))) (λx=>(.cons (.agg (XC ze (QB x.hd.inner))) .nil)) (λx=>True)
theorem ZaU:Ki.Ok P:=Jf (λ_=>rfl) (λx h=>by trivial) (λx h=>Zsa _ )
def wDue_V(a:YD):V:=(Yd (ZN P [] []) (Yf []) 400 70 (.cons (.agg (XC ze a)) .nil)).join
theorem wDue_p0(a:YD):(Xl 1 λc=>(Yd (ZN P [] []) (Yf []) 400 70 (.cons (.agg (XC ze a)) .nil)).total&&((Yd (ZN P [] []) (Yf []) 400 70 (.cons (.agg (XC ze a)) .nil)).Y1&&Xe (.tup (.cons (.int za .i64 0) (.cons (.bool za za) .nil))) (Yd (ZN P [] []) (Yf []) 400 70 (.cons (.agg (XC ze a)) .nil)).join))=ze:=by kernel_rfl
theorem Zr9(a:YD) : Zi P 70 (.cons (.agg (XC ze a)) .nil) (YM (.tup (.cons (.int za .i64 0) (.cons (.bool za za) .nil))) (wDue_V a)):=by
 exact Kz 0 1 XK (YJ hm hn (l:=[]) trivial) rfl 400 (.tup (.cons (.int za .i64 0) (.cons (.bool za za) .nil))) (args:=λc=>(.cons (.agg (XC ze a)) .nil)) (Has.of hn Tryz.func70 rfl) (wDue_p0 a) (c:=0) (zJ _) (by omega)
def ZaT:Con:=QA 70 (.cons (.agg ZgW) .nil) (λx=>ze) (λx=>YM (.tup (.cons (.int za .i64 0) (.cons (.bool za za) .nil))) (wDue_V (QB x.hd.inner))) (λx=>(.cons (.agg (XC ze (QB x.hd.inner))) .nil)) (λx=>True)
theorem Zku:ZaT.Ok P:=Jf (λ_=>rfl) (λx h=>by trivial) (λx h=>Zr9 _ )
def Zj3(a:QK):V:=(Yd (ZN P [] []) (Yf []) 400 61 (.cons (.agg (ZO ze a)) .nil)).join
theorem bCheck_p0(a:QK):(Xl 1 λc=>(Yd (ZN P [] []) (Yf []) 400 61 (.cons (.agg (ZO ze a)) .nil)).total&&((Yd (ZN P [] []) (Yf []) 400 61 (.cons (.agg (ZO ze a)) .nil)).Y1&&Xe (.int za .i64 0) (Yd (ZN P [] []) (Yf []) 400 61 (.cons (.agg (ZO ze a)) .nil)).join))=ze:=by kernel_rfl
theorem Znu(a:QK) : Zi P 61 (.cons (.agg (ZO ze a)) .nil) (YM (.int za .i64 0) (Zj3 a)):=by
 exact Kz 0 1 XK (YJ hm hn (l:=[]) trivial) rfl 400 (.int za .i64 0) (args:=λc=>(.cons (.agg (ZO ze a)) .nil)) (Has.of hn Tryz.func61 rfl) (bCheck_p0 a) (c:=0) (zJ _) (by omega)
def ZaH:Con:=QA 61 (.cons (.agg Zjl) .nil) (λx=>ze) (λx=>YM (.int za .i64 0) (Zj3 (Qn x.hd.inner))) (λx=>(.cons (.agg (ZO ze (Qn x.hd.inner))) .nil)) (λx=>True)
theorem Zkb:ZaH.Ok P:=Jf (λ_=>rfl) (λx h=>by trivial) (λx h=>Znu _ )
def bDry_V(a:QK):V:=(Yd (ZN P [] []) (Yf []) 400 118 (.cons (.agg (ZO ze a)) .nil)).join
theorem bDry_p0(a:QK):(Xl 1 λc=>(Yd (ZN P [] []) (Yf []) 400 118 (.cons (.agg (ZO ze a)) .nil)).total&&((Yd (ZN P [] []) (Yf []) 400 118 (.cons (.agg (ZO ze a)) .nil)).Y1&&Xe (.bool za za) (Yd (ZN P [] []) (Yf []) 400 118 (.cons (.agg (ZO ze a)) .nil)).join))=ze:=by kernel_rfl
theorem Znv(a:QK) : Zi P 118 (.cons (.agg (ZO ze a)) .nil) (YM (.bool za za) (bDry_V a)):=by
 exact Kz 0 1 XK (YJ hm hn (l:=[]) trivial) rfl 400 (.bool za za) (args:=λc=>(.cons (.agg (ZO ze a)) .nil)) (Has.of hn Tryz.func118 rfl) (bDry_p0 a) (c:=0) (zJ _) (by omega)
def ZaI:Con:=QA 118 (.cons (.agg Zjl) .nil) (λx=>ze) (λx=>YM (.bool za za) (bDry_V (Qn x.hd.inner))) (λx=>(.cons (.agg (ZO ze (Qn x.hd.inner))) .nil)) (λx=>True)
theorem Zkc:ZaI.Ok P:=Jf (λ_=>rfl) (λx h=>by trivial) (λx h=>Znv _ )
def Zk5(a:DFrac):V:=(Yd (ZN P [] []) (Yf []) 400 67 (.cons (.agg (Gq ze a)) .nil)).join
theorem fCheck_p0(a:DFrac):(Xl 1 λc=>(Yd (ZN P [] []) (Yf []) 400 67 (.cons (.agg (Gq ze a)) .nil)).total&&((Yd (ZN P [] []) (Yf []) 400 67 (.cons (.agg (Gq ze a)) .nil)).Y1&&Xe (.int za .i64 0) (Yd (ZN P [] []) (Yf []) 400 67 (.cons (.agg (Gq ze a)) .nil)).join))=ze:=by kernel_rfl
theorem ZpK(a:DFrac) : Zi P 67 (.cons (.agg (Gq ze a)) .nil) (YM (.int za .i64 0) (Zk5 a)):=by
 exact Kz 0 1 XK (YJ hm hn (l:=[]) trivial) rfl 400 (.int za .i64 0) (args:=λc=>(.cons (.agg (Gq ze a)) .nil)) (Has.of hn Tryz.func67 rfl) (fCheck_p0 a) (c:=0) (zJ _) (by omega)
def ZaL:Con:=QA 67 (.cons (.agg patDFrac) .nil) (λx=>ze) (λx=>YM (.int za .i64 0) (Zk5 (Zlp x.hd.inner))) (λx=>(.cons (.agg (Gq ze (Zlp x.hd.inner))) .nil)) (λx=>True)
theorem Zkg:ZaL.Ok P:=Jf (λ_=>rfl) (λx h=>by trivial) (λx h=>ZpK _ )
def ZlT(a:DMask):V:=(Yd (ZN P [] []) (Yf []) 400 97 (.cons (.agg (Gs ze a)) .nil)).join
theorem mCheck_p0(a:DMask):(Xl 1 λc=>(Yd (ZN P [] []) (Yf []) 400 97 (.cons (.agg (Gs ze a)) .nil)).total&&((Yd (ZN P [] []) (Yf []) 400 97 (.cons (.agg (Gs ze a)) .nil)).Y1&&Xe (.int za .i64 0) (Yd (ZN P [] []) (Yf []) 400 97 (.cons (.agg (Gs ze a)) .nil)).join))=ze:=by kernel_rfl
theorem Zqm(a:DMask) : Zi P 97 (.cons (.agg (Gs ze a)) .nil) (YM (.int za .i64 0) (ZlT a)):=by
 exact Kz 0 1 XK (YJ hm hn (l:=[]) trivial) rfl 400 (.int za .i64 0) (args:=λc=>(.cons (.agg (Gs ze a)) .nil)) (Has.of hn Tryz.func97 rfl) (mCheck_p0 a) (c:=0) (zJ _) (by omega)
def Gl:Con:=QA 97 (.cons (.agg patDMask) .nil) (λx=>ze) (λx=>YM (.int za .i64 0) (ZlT (Zlq x.hd.inner))) (λx=>(.cons (.agg (Gs ze (Zlq x.hd.inner))) .nil)) (λx=>True)
theorem Zh5:Gl.Ok P:=Jf (λ_=>rfl) (λx h=>by trivial) (λx h=>Zqm _ )
end Go.Proofs.YthhbdbeglmkijaaGreatDoor
end
