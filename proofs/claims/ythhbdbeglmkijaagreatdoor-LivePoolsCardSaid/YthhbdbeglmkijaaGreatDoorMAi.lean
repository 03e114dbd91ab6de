/- The program's data, as Lean structures. Written by a program of ours (wip/gen/con3.py). -/
import Derived.Test.YthhbdbeglmkijaaGreatDoorMAg
set_option maxRecDepth 100000
set_option linter.unusedVariables false
set_option linter.unusedSimpArgs false
noncomputable section
open Bool renaming false→za,true→ze
namespace Go.Proofs.YthhbdbeglmkijaaGreatDoor
open Go.Fw
structure K9 where mk::
 (f0:Int)
 (f1:Int)
def ZR(st:Bool)(d:K9):V:=(.cons (.int za .i64 d.f0) (.cons (.int za .i64 d.f1) .nil))
def Jl(v:V):K9:=⟨v.hd.toInt,v.tl.hd.toInt⟩
def Zmk:V:=(.cons (.int za .i64 0) (.cons (.int za .i64 0) .nil))
structure Ud where mk::
 (n0:Nat) (r0:Nat->K9)
def Qj(st:Bool)(d:Ud):V:=(.cons (.rsl st 2 d.n0 λj=>ZR st (d.r0 j)) .nil)
def Ku(v:V):Ud:=⟨v.hd.Zy,λj=>Jl (v.hd.ZB j)⟩
def Zml:V:=(.cons (.rsl ze 2 0 λ_=>Zmk) .nil)
structure Zq where mk::
 (f0:Int)
def ZL(st:Bool)(d:Zq):V:=(.cons (.int za .u32 d.f0) .nil)
def Yq(v:V):Zq:=⟨v.hd.toInt⟩
def Zmh:V:=(.cons (.int za .u32 0) .nil)
structure Zg where mk::
 (n0:Nat) (r0:Nat->Zq)
def Y7(st:Bool)(d:Zg):V:=(.cons (.rsl st 1 d.n0 λj=>ZL st (d.r0 j)) .nil)
def Z0(v:V):Zg:=⟨v.hd.Zy,λj=>Yq (v.hd.ZB j)⟩
def ZgV:V:=(.cons (.rsl ze 1 0 λ_=>Zmh) .nil)
structure Z6 where mk::
 (f0:Int)
 (f1:Int)
 (f2:Int)
 (f3:Int)
def Zr(st:Bool)(d:Z6):V:=(.cons (.int za .i64 d.f0) (.cons (.int za .i64 d.f1) (.cons (.int za .i64 d.f2) (.cons (.int za .i64 d.f3) .nil))))
def YT(v:V):Z6:=⟨v.hd.toInt,v.tl.hd.toInt,v.tl.tl.hd.toInt,v.tl.tl.tl.hd.toInt⟩
def Zmi:V:=(.cons (.int za .i64 0) (.cons (.int za .i64 0) (.cons (.int za .i64 0) (.cons (.int za .i64 0) .nil))))
structure ZJ where mk::
 (f0:Int)
 (f1:Int)
 (f2:Int)
 (f3:Int)
def Zn(st:Bool)(d:ZJ):V:=(.cons (.int za .i64 d.f0) (.cons (.int za .i64 d.f1) (.cons (.int za .u32 d.f2) (.cons (.int za .u32 d.f3) .nil))))
def Yk(v:V):ZJ:=⟨v.hd.toInt,v.tl.hd.toInt,v.tl.tl.hd.toInt,v.tl.tl.tl.hd.toInt⟩
def patDVcpu:V:=(.cons (.int za .i64 0) (.cons (.int za .i64 0) (.cons (.int za .u32 0) (.cons (.int za .u32 0) .nil))))
structure Ze where mk::
 (n0:Nat) (r0:Nat->Z6)
 (n1:Nat) (r1:Nat->ZJ)
def Kj(st:Bool)(d:Ze):V:=(.cons (.rsl st 4 d.n0 λj=>Zr st (d.r0 j)) (.cons (.rsl st 4 d.n1 λj=>Zn st (d.r1 j)) .nil))
def ZH(v:V):Ze:=⟨v.hd.Zy,λj=>YT (v.hd.ZB j),v.tl.hd.Zy,λj=>Yk (v.tl.hd.ZB j)⟩
structure DT3 where mk::
 (f0:Int)
def ZP(st:Bool)(d:DT3):V:=(.cons (.int za .i64 d.f0) .nil)
def ZM(v:V):DT3:=⟨v.hd.toInt⟩
def patDT3:V:=(.cons (.int za .i64 0) .nil)
structure Yn where mk::
 (f0:Int)
 (n1:Nat) (r1:Nat->DT3)
def Zw(st:Bool)(d:Yn):V:=(.cons (.int za .i64 d.f0) (.cons (.rsl st 1 d.n1 λj=>ZP st (d.r1 j)) .nil))
def YV(v:V):Yn:=⟨v.hd.toInt,v.tl.hd.Zy,λj=>ZM (v.tl.hd.ZB j)⟩
def patDGang:V:=(.cons (.int za .i64 0) (.cons (.rsl ze 1 0 λ_=>patDT3) .nil))
structure Zd where mk::
 (n0:Nat) (r0:Nat->Yn)
def Jd(st:Bool)(d:Zd):V:=(.cons (.rsl st 2 d.n0 λj=>Zw st (d.r0 j)) .nil)
def ZT(v:V):Zd:=⟨v.hd.Zy,λj=>YV (v.hd.ZB j)⟩
structure Xi where mk::
 (f0:Int)
 (f1:Int)
 (f2:Int)
 (b3:Bool)
 (b4:Bool)
def ZI(st:Bool)(d:Xi):V:=(.cons (.int za .i64 d.f0) (.cons (.int za .i64 d.f1) (.cons (.int za .i64 d.f2) (.cons (.bool za d.b3) (.cons (.bool za d.b4) .nil)))))
def Ww(v:V):Xi:=⟨v.hd.toInt,v.tl.hd.toInt,v.tl.tl.hd.toInt,v.tl.tl.tl.hd.toBool,v.tl.tl.tl.tl.hd.toBool⟩
def patDPort:V:=(.cons (.int za .i64 0) (.cons (.int za .i64 0) (.cons (.int za .i64 0) (.cons (.bool za za) (.cons (.bool za za) .nil)))))
structure YS where mk::
 (n0:Nat) (r0:Nat->Xi)
def Zib(st:Bool)(d:YS):V:=(.cons (.rsl st 5 d.n0 λj=>ZI st (d.r0 j)) .nil)
def Zbg(v:V):YS:=⟨v.hd.Zy,λj=>Ww (v.hd.ZB j)⟩
structure JK where mk::
 (f0:Int)
 (f1:Int)
def ZE(st:Bool)(d:JK):V:=(.cons (.int za .i64 d.f0) (.cons (.int za .i64 d.f1) .nil))
def QS(v:V):JK:=⟨v.hd.toInt,v.tl.hd.toInt⟩
def patDTimer:V:=(.cons (.int za .i64 0) (.cons (.int za .i64 0) .nil))
structure YF where mk::
 (f0:Int)
 (n1:Nat) (r1:Nat->JK)
def VE(st:Bool)(d:YF):V:=(.cons (.int za .i64 d.f0) (.cons (.rsl st 2 d.n1 λj=>ZE st (d.r1 j)) .nil))
def Z5(v:V):YF:=⟨v.hd.toInt,v.tl.hd.Zy,λj=>QS (v.tl.hd.ZB j)⟩
structure YZ where mk::
 (f0:Int)
 (f1:Int)
 (f2:Int)
def Zx(st:Bool)(d:YZ):V:=(.cons (.int za .i64 d.f0) (.cons (.int za .i64 d.f1) (.cons (.int za .i64 d.f2) .nil)))
def Ya(v:V):YZ:=⟨v.hd.toInt,v.tl.hd.toInt,v.tl.tl.hd.toInt⟩
def Zmg:V:=(.cons (.int za .i64 0) (.cons (.int za .i64 0) (.cons (.int za .i64 0) .nil)))
structure Xt where mk::
 (f0:Int)
 (n1:Nat) (r1:Nat->JK)
 (n2:Nat) (r2:Nat->YZ)
def ZaW(st:Bool)(d:Xt):V:=(.cons (.int za .i64 d.f0) (.cons (.rsl st 2 d.n1 λj=>ZE st (d.r1 j)) (.cons (.rsl st 3 d.n2 λj=>Zx st (d.r2 j)) .nil)))
def Qm(v:V):Xt:=⟨v.hd.toInt,v.tl.hd.Zy,λj=>QS (v.tl.hd.ZB j),v.tl.tl.hd.Zy,λj=>Ya (v.tl.tl.hd.ZB j)⟩
structure Zj where mk::
 (f0:Int)
 (f1:Int)
 (f2:Int)
 (f3:Int)
 (f4:Int)
 (f5:Int)
 (f6:Int)
 (f7:Int)
 (f8:Int)
 (f9:Int)
 (f10:Int)
def Zo(st:Bool)(d:Zj):V:=(.cons (.int za .i64 d.f0) (.cons (.int za .i64 d.f1) (.cons (.int za .i64 d.f2) (.cons (.int za .u32 d.f3) (.cons (.int za .i64 d.f4) (.cons (.int za .u64 d.f5) (.cons (.int za .u64 d.f6) (.cons (.int za .u64 d.f7) (.cons (.int za .u64 d.f8) (.cons (.int za .i64 d.f9) (.cons (.int za .i64 d.f10) .nil)))))))))))
def ZV(v:V):Zj:=⟨v.hd.toInt,v.tl.hd.toInt,v.tl.tl.hd.toInt,v.tl.tl.tl.hd.toInt,v.tl.tl.tl.tl.hd.toInt,v.tl.tl.tl.tl.tl.hd.toInt,v.tl.tl.tl.tl.tl.tl.hd.toInt,v.tl.tl.tl.tl.tl.tl.tl.hd.toInt,v.tl.tl.tl.tl.tl.tl.tl.tl.hd.toInt,v.tl.tl.tl.tl.tl.tl.tl.tl.tl.hd.toInt,v.tl.tl.tl.tl.tl.tl.tl.tl.tl.tl.hd.toInt⟩
def patDOwn:V:=(.cons (.int za .i64 0) (.cons (.int za .i64 0) (.cons (.int za .i64 0) (.cons (.int za .u32 0) (.cons (.int za .i64 0) (.cons (.int za .u64 0) (.cons (.int za .u64 0) (.cons (.int za .u64 0) (.cons (.int za .u64 0) (.cons (.int za .i64 0) (.cons (.int za .i64 0) .nil)))))))))))
structure QK where mk::
 (f0:Int)
 (f1:Int)
def ZO(st:Bool)(d:QK):V:=(.cons (.int za .i64 d.f0) (.cons (.int za .i64 d.f1) .nil))
def Qn(v:V):QK:=⟨v.hd.toInt,v.tl.hd.toInt⟩
def Zjl:V:=(.cons (.int za .i64 0) (.cons (.int za .i64 0) .nil))
structure ZA where mk::
 (f0:Int)
 (f1:Int)
def Zt(st:Bool)(d:ZA):V:=(.cons (.int za .i64 d.f0) (.cons (.int za .i64 d.f1) .nil))
def Ye(v:V):ZA:=⟨v.hd.toInt,v.tl.hd.toInt⟩
def patDPut:V:=(.cons (.int za .i64 0) (.cons (.int za .i64 0) .nil))
structure Za where mk::
 (f0:Int)
 (n1:Nat) (r1:Nat->K9)
 (n2:Nat) (r2:Nat->Zq)
 (n3:Nat) (r3:Nat->Z6)
 (n4:Nat) (r4:Nat->ZJ)
 (n5:Nat) (r5:Nat->Yn)
 (n6:Nat) (r6:Nat->Zj)
 (n7:Nat) (r7:Nat->QK)
 (n8:Nat) (r8:Nat->Xi)
 (f9:Int)
 (n10:Nat) (r10:Nat->JK)
 (n11:Nat) (r11:Nat->YZ)
 (n12:Nat) (r12:Nat->ZA)
 (f13:Int)
def Z9(st:Bool)(d:Za):V:=(.cons (.int za .i64 d.f0) (.cons (.rsl st 2 d.n1 λj=>ZR st (d.r1 j)) (.cons (.rsl st 1 d.n2 λj=>ZL st (d.r2 j)) (.cons (.rsl st 4 d.n3 λj=>Zr st (d.r3 j)) (.cons (.rsl st 4 d.n4 λj=>Zn st (d.r4 j)) (.cons (.rsl st 2 d.n5 λj=>Zw st (d.r5 j)) (.cons (.rsl st 11 d.n6 λj=>Zo st (d.r6 j)) (.cons (.rsl st 2 d.n7 λj=>ZO st (d.r7 j)) (.cons (.rsl st 5 d.n8 λj=>ZI st (d.r8 j)) (.cons (.int za .i64 d.f9) (.cons (.rsl st 2 d.n10 λj=>ZE st (d.r10 j)) (.cons (.rsl st 3 d.n11 λj=>Zx st (d.r11 j)) (.cons (.rsl st 2 d.n12 λj=>Zt st (d.r12 j)) (.cons (.int za .u64 d.f13) .nil))))))))))))))
def Z4(v:V):Za:=⟨v.hd.toInt,v.tl.hd.Zy,λj=>Jl (v.tl.hd.ZB j),v.tl.tl.hd.Zy,λj=>Yq (v.tl.tl.hd.ZB j),v.tl.tl.tl.hd.Zy,λj=>YT (v.tl.tl.tl.hd.ZB j),v.tl.tl.tl.tl.hd.Zy,λj=>Yk (v.tl.tl.tl.tl.hd.ZB j),v.tl.tl.tl.tl.tl.hd.Zy,λj=>YV (v.tl.tl.tl.tl.tl.hd.ZB j),v.tl.tl.tl.tl.tl.tl.hd.Zy,λj=>ZV (v.tl.tl.tl.tl.tl.tl.hd.ZB j),v.tl.tl.tl.tl.tl.tl.tl.hd.Zy,λj=>Qn (v.tl.tl.tl.tl.tl.tl.tl.hd.ZB j),v.tl.tl.tl.tl.tl.tl.tl.tl.hd.Zy,λj=>Ww (v.tl.tl.tl.tl.tl.tl.tl.tl.hd.ZB j),v.tl.tl.tl.tl.tl.tl.tl.tl.tl.hd.toInt,v.tl.tl.tl.tl.tl.tl.tl.tl.tl.tl.hd.Zy,λj=>QS (v.tl.tl.tl.tl.tl.tl.tl.tl.tl.tl.hd.ZB j),v.tl.tl.tl.tl.tl.tl.tl.tl.tl.tl.tl.hd.Zy,λj=>Ya (v.tl.tl.tl.tl.tl.tl.tl.tl.tl.tl.tl.hd.ZB j),v.tl.tl.tl.tl.tl.tl.tl.tl.tl.tl.tl.tl.hd.Zy,λj=>Ye (v.tl.tl.tl.tl.tl.tl.tl.tl.tl.tl.tl.tl.hd.ZB j),v.tl.tl.tl.tl.tl.tl.tl.tl.tl.tl.tl.tl.tl.hd.toInt⟩
def ZbC:V:=(.cons (.int za .i64 0) (.cons (.rsl ze 2 0 λ_=>Zmk) (.cons (.rsl ze 1 0 λ_=>Zmh) (.cons (.rsl ze 4 0 λ_=>Zmi) (.cons (.rsl ze 4 0 λ_=>patDVcpu) (.cons (.rsl ze 2 0 λ_=>patDGang) (.cons (.rsl ze 11 0 λ_=>patDOwn) (.cons (.rsl ze 2 0 λ_=>Zjl) (.cons (.rsl ze 5 0 λ_=>patDPort) (.cons (.int za .i64 0) (.cons (.rsl ze 2 0 λ_=>patDTimer) (.cons (.rsl ze 3 0 λ_=>Zmg) (.cons (.rsl ze 2 0 λ_=>patDPut) (.cons (.int za .u64 0) .nil))))))))))))))
structure YD where mk::
 (f0:Int)
 (f1:Int)
 (f2:Int)
 (f3:Int)
def XC(st:Bool)(d:YD):V:=(.cons (.int za .i64 d.f0) (.cons (.int za .i64 d.f1) (.cons (.int za .u32 d.f2) (.cons (.int za .i64 d.f3) .nil))))
def QB(v:V):YD:=⟨v.hd.toInt,v.tl.hd.toInt,v.tl.tl.hd.toInt,v.tl.tl.tl.hd.toInt⟩
def ZgW:V:=(.cons (.int za .i64 0) (.cons (.int za .i64 0) (.cons (.int za .u32 0) (.cons (.int za .i64 0) .nil))))
structure DWide where mk::
 (f0:Int)
 (f1:Int)
structure DFrac where mk::
 (f0:Int)
 (f1:Int)
 (f2:Int)
def Gq(st:Bool)(d:DFrac):V:=(.cons (.int za .u64 d.f0) (.cons (.int za .u64 d.f1) (.cons (.int za .u64 d.f2) .nil)))
def Zlp(v:V):DFrac:=⟨v.hd.toInt,v.tl.hd.toInt,v.tl.tl.hd.toInt⟩
def patDFrac:V:=(.cons (.int za .u64 0) (.cons (.int za .u64 0) (.cons (.int za .u64 0) .nil)))
structure XZ where mk::
 (f0:Int)
 (f1:Int)
 (f2:Int)
 (f3:Int)
 (f4:Int)
def Ul(st:Bool)(d:XZ):V:=(.cons (.int za .i64 d.f0) (.cons (.int za .i64 d.f1) (.cons (.int za .u64 d.f2) (.cons (.int za .u64 d.f3) (.cons (.int za .u64 d.f4) .nil)))))
def Zbh(v:V):XZ:=⟨v.hd.toInt,v.tl.hd.toInt,v.tl.tl.hd.toInt,v.tl.tl.tl.hd.toInt,v.tl.tl.tl.tl.hd.toInt⟩
def Zmj:V:=(.cons (.int za .i64 0) (.cons (.int za .i64 0) (.cons (.int za .u64 0) (.cons (.int za .u64 0) (.cons (.int za .u64 0) .nil)))))
structure DQueue where mk::
 (n0:Nat) (r0:Nat->XZ)
structure DMask where mk::
 (f0:Int)
 (f1:Int)
def Gs(st:Bool)(d:DMask):V:=(.cons (.int za .u32 d.f0) (.cons (.int za .u32 d.f1) .nil))
def Zlq(v:V):DMask:=⟨v.hd.toInt,v.tl.hd.toInt⟩
def patDMask:V:=(.cons (.int za .u32 0) (.cons (.int za .u32 0) .nil))
structure DWish where mk::
 (f0:Int)
 (f1:Int)
 (f2:Int)
 (f3:Int)
structure DWait where mk::
 (f0:Int)
 (f1:Int)
 (b2:Bool)
end Go.Proofs.YthhbdbeglmkijaaGreatDoor
end
