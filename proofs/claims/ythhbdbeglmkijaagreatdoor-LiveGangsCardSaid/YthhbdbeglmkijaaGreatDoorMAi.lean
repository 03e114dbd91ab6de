/- The program's data, as Lean structures. Written by a program of ours (wip/gen/con3.py). -/
import Derived.Test.YthhbdbeglmkijaaGreatDoorMAg
set_option maxRecDepth 100000
set_option linter.unusedVariables false
set_option linter.unusedSimpArgs false
noncomputable section
open Bool renaming false→za,true→ze
namespace Go.Proofs.YthhbdbeglmkijaaGreatDoor
open Go.Fw
structure VU where mk::
 (f0:Int)
 (f1:Int)
def Z9(st:Bool)(d:VU):V:=(.cons (.int za .i64 d.f0) (.cons (.int za .i64 d.f1) .nil))
def Zba(v:V):VU:=⟨v.hd.toInt,v.tl.hd.toInt⟩
def Zmb:V:=(.cons (.int za .i64 0) (.cons (.int za .i64 0) .nil))
structure VW where mk::
 (n0:Nat) (r0:Nat->VU)
def WW(st:Bool)(d:VW):V:=(.cons (.rsl st 2 d.n0 λj=>Z9 st (d.r0 j)) .nil)
def JU(v:V):VW:=⟨v.hd.Zi,λj=>Zba (v.hd.Zn j)⟩
def Zmc:V:=(.cons (.rsl ze 2 0 λ_=>Zmb) .nil)
structure ZE where mk::
 (f0:Int)
def Z8(st:Bool)(d:ZE):V:=(.cons (.int za .u32 d.f0) .nil)
def X0(v:V):ZE:=⟨v.hd.toInt⟩
def Zl6:V:=(.cons (.int za .u32 0) .nil)
structure Zj where mk::
 (n0:Nat) (r0:Nat->ZE)
def WV(st:Bool)(d:Zj):V:=(.cons (.rsl st 1 d.n0 λj=>Z8 st (d.r0 j)) .nil)
def Ym(v:V):Zj:=⟨v.hd.Zi,λj=>X0 (v.hd.Zn j)⟩
def Zma:V:=(.cons (.rsl ze 1 0 λ_=>Zl6) .nil)
structure Z6 where mk::
 (f0:Int)
 (f1:Int)
 (f2:Int)
 (f3:Int)
def Zv(st:Bool)(d:Z6):V:=(.cons (.int za .i64 d.f0) (.cons (.int za .i64 d.f1) (.cons (.int za .i64 d.f2) (.cons (.int za .i64 d.f3) .nil))))
def XQ(v:V):Z6:=⟨v.hd.toInt,v.tl.hd.toInt,v.tl.tl.hd.toInt,v.tl.tl.tl.hd.toInt⟩
def Zl7:V:=(.cons (.int za .i64 0) (.cons (.int za .i64 0) (.cons (.int za .i64 0) (.cons (.int za .i64 0) .nil))))
structure ZH where mk::
 (f0:Int)
 (f1:Int)
 (f2:Int)
 (f3:Int)
def Zt(st:Bool)(d:ZH):V:=(.cons (.int za .i64 d.f0) (.cons (.int za .i64 d.f1) (.cons (.int za .u32 d.f2) (.cons (.int za .u32 d.f3) .nil))))
def YK(v:V):ZH:=⟨v.hd.toInt,v.tl.hd.toInt,v.tl.tl.hd.toInt,v.tl.tl.tl.hd.toInt⟩
def patDVcpu:V:=(.cons (.int za .i64 0) (.cons (.int za .i64 0) (.cons (.int za .u32 0) (.cons (.int za .u32 0) .nil))))
structure Zf where mk::
 (n0:Nat) (r0:Nat->Z6)
 (n1:Nat) (r1:Nat->ZH)
def Vj(st:Bool)(d:Zf):V:=(.cons (.rsl st 4 d.n0 λj=>Zv st (d.r0 j)) (.cons (.rsl st 4 d.n1 λj=>Zt st (d.r1 j)) .nil))
def ZQ(v:V):Zf:=⟨v.hd.Zi,λj=>XQ (v.hd.Zn j),v.tl.hd.Zi,λj=>YK (v.tl.hd.Zn j)⟩
structure DT3 where mk::
 (f0:Int)
def ZK(st:Bool)(d:DT3):V:=(.cons (.int za .i64 d.f0) .nil)
def Zx(v:V):DT3:=⟨v.hd.toInt⟩
def patDT3:V:=(.cons (.int za .i64 0) .nil)
structure ZI where mk::
 (f0:Int)
 (n1:Nat) (r1:Nat->DT3)
def Zu(st:Bool)(d:ZI):V:=(.cons (.int za .i64 d.f0) (.cons (.rsl st 1 d.n1 λj=>ZK st (d.r1 j)) .nil))
def XC(v:V):ZI:=⟨v.hd.toInt,v.tl.hd.Zi,λj=>Zx (v.tl.hd.Zn j)⟩
def Zl8:V:=(.cons (.int za .i64 0) (.cons (.rsl ze 1 0 λ_=>patDT3) .nil))
structure Zc where mk::
 (n0:Nat) (r0:Nat->ZI)
def Y5(st:Bool)(d:Zc):V:=(.cons (.rsl st 2 d.n0 λj=>Zu st (d.r0 j)) .nil)
def ZG(v:V):Zc:=⟨v.hd.Zi,λj=>XC (v.hd.Zn j)⟩
def Zl9:V:=(.cons (.rsl ze 2 0 λ_=>Zl8) .nil)
structure XE where mk::
 (f0:Int)
 (f1:Int)
 (f2:Int)
 (b3:Bool)
 (b4:Bool)
def ZP(st:Bool)(d:XE):V:=(.cons (.int za .i64 d.f0) (.cons (.int za .i64 d.f1) (.cons (.int za .i64 d.f2) (.cons (.bool za d.b3) (.cons (.bool za d.b4) .nil)))))
def Vx(v:V):XE:=⟨v.hd.toInt,v.tl.hd.toInt,v.tl.tl.hd.toInt,v.tl.tl.tl.hd.toBool,v.tl.tl.tl.tl.hd.toBool⟩
def patDPort:V:=(.cons (.int za .i64 0) (.cons (.int za .i64 0) (.cons (.int za .i64 0) (.cons (.bool za za) (.cons (.bool za za) .nil)))))
structure YE where mk::
 (n0:Nat) (r0:Nat->XE)
def ZhW(st:Bool)(d:YE):V:=(.cons (.rsl st 5 d.n0 λj=>ZP st (d.r0 j)) .nil)
def Za9(v:V):YE:=⟨v.hd.Zi,λj=>Vx (v.hd.Zn j)⟩
structure J9 where mk::
 (f0:Int)
 (f1:Int)
def ZC(st:Bool)(d:J9):V:=(.cons (.int za .i64 d.f0) (.cons (.int za .i64 d.f1) .nil))
def GA(v:V):J9:=⟨v.hd.toInt,v.tl.hd.toInt⟩
def patDTimer:V:=(.cons (.int za .i64 0) (.cons (.int za .i64 0) .nil))
structure Yx where mk::
 (f0:Int)
 (n1:Nat) (r1:Nat->J9)
def Vk(st:Bool)(d:Yx):V:=(.cons (.int za .i64 d.f0) (.cons (.rsl st 2 d.n1 λj=>ZC st (d.r1 j)) .nil))
def ZY(v:V):Yx:=⟨v.hd.toInt,v.tl.hd.Zi,λj=>GA (v.tl.hd.Zn j)⟩
structure Y0 where mk::
 (f0:Int)
 (f1:Int)
 (f2:Int)
def ZF(st:Bool)(d:Y0):V:=(.cons (.int za .i64 d.f0) (.cons (.int za .i64 d.f1) (.cons (.int za .i64 d.f2) .nil)))
def XH(v:V):Y0:=⟨v.hd.toInt,v.tl.hd.toInt,v.tl.tl.hd.toInt⟩
def Zl5:V:=(.cons (.int za .i64 0) (.cons (.int za .i64 0) (.cons (.int za .i64 0) .nil)))
structure Xi where mk::
 (f0:Int)
 (n1:Nat) (r1:Nat->J9)
 (n2:Nat) (r2:Nat->Y0)
def ZaN(st:Bool)(d:Xi):V:=(.cons (.int za .i64 d.f0) (.cons (.rsl st 2 d.n1 λj=>ZC st (d.r1 j)) (.cons (.rsl st 3 d.n2 λj=>ZF st (d.r2 j)) .nil)))
def Qa(v:V):Xi:=⟨v.hd.toInt,v.tl.hd.Zi,λj=>GA (v.tl.hd.Zn j),v.tl.tl.hd.Zi,λj=>XH (v.tl.tl.hd.Zn j)⟩
structure Zq where mk::
 (f0:Int)
 (f1:Int)
 (f2:Int)
 (f3:Int)
 (f4:Int)
 (f5:Int)
 (f6:Int)
 (f7:Int)
 (f8:Int)
 (f9:Int)
 (f10:Int)
def Zy(st:Bool)(d:Zq):V:=(.cons (.int za .i64 d.f0) (.cons (.int za .i64 d.f1) (.cons (.int za .i64 d.f2) (.cons (.int za .u32 d.f3) (.cons (.int za .i64 d.f4) (.cons (.int za .u64 d.f5) (.cons (.int za .u64 d.f6) (.cons (.int za .u64 d.f7) (.cons (.int za .u64 d.f8) (.cons (.int za .i64 d.f9) (.cons (.int za .i64 d.f10) .nil)))))))))))
def Xx(v:V):Zq:=⟨v.hd.toInt,v.tl.hd.toInt,v.tl.tl.hd.toInt,v.tl.tl.tl.hd.toInt,v.tl.tl.tl.tl.hd.toInt,v.tl.tl.tl.tl.tl.hd.toInt,v.tl.tl.tl.tl.tl.tl.hd.toInt,v.tl.tl.tl.tl.tl.tl.tl.hd.toInt,v.tl.tl.tl.tl.tl.tl.tl.tl.hd.toInt,v.tl.tl.tl.tl.tl.tl.tl.tl.tl.hd.toInt,v.tl.tl.tl.tl.tl.tl.tl.tl.tl.tl.hd.toInt⟩
def patDOwn:V:=(.cons (.int za .i64 0) (.cons (.int za .i64 0) (.cons (.int za .i64 0) (.cons (.int za .u32 0) (.cons (.int za .i64 0) (.cons (.int za .u64 0) (.cons (.int za .u64 0) (.cons (.int za .u64 0) (.cons (.int za .u64 0) (.cons (.int za .i64 0) (.cons (.int za .i64 0) .nil)))))))))))
structure Q9 where mk::
 (f0:Int)
 (f1:Int)
def Z0(st:Bool)(d:Q9):V:=(.cons (.int za .i64 d.f0) (.cons (.int za .i64 d.f1) .nil))
def Vw(v:V):Q9:=⟨v.hd.toInt,v.tl.hd.toInt⟩
def Zi7:V:=(.cons (.int za .i64 0) (.cons (.int za .i64 0) .nil))
structure ZA where mk::
 (f0:Int)
 (f1:Int)
def ZB(st:Bool)(d:ZA):V:=(.cons (.int za .i64 d.f0) (.cons (.int za .i64 d.f1) .nil))
def Wo(v:V):ZA:=⟨v.hd.toInt,v.tl.hd.toInt⟩
def patDPut:V:=(.cons (.int za .i64 0) (.cons (.int za .i64 0) .nil))
structure Za where mk::
 (f0:Int)
 (n1:Nat) (r1:Nat->VU)
 (n2:Nat) (r2:Nat->ZE)
 (n3:Nat) (r3:Nat->Z6)
 (n4:Nat) (r4:Nat->ZH)
 (n5:Nat) (r5:Nat->ZI)
 (n6:Nat) (r6:Nat->Zq)
 (n7:Nat) (r7:Nat->Q9)
 (n8:Nat) (r8:Nat->XE)
 (f9:Int)
 (n10:Nat) (r10:Nat->J9)
 (n11:Nat) (r11:Nat->Y0)
 (n12:Nat) (r12:Nat->ZA)
 (f13:Int)
def Z7(st:Bool)(d:Za):V:=(.cons (.int za .i64 d.f0) (.cons (.rsl st 2 d.n1 λj=>Z9 st (d.r1 j)) (.cons (.rsl st 1 d.n2 λj=>Z8 st (d.r2 j)) (.cons (.rsl st 4 d.n3 λj=>Zv st (d.r3 j)) (.cons (.rsl st 4 d.n4 λj=>Zt st (d.r4 j)) (.cons (.rsl st 2 d.n5 λj=>Zu st (d.r5 j)) (.cons (.rsl st 11 d.n6 λj=>Zy st (d.r6 j)) (.cons (.rsl st 2 d.n7 λj=>Z0 st (d.r7 j)) (.cons (.rsl st 5 d.n8 λj=>ZP st (d.r8 j)) (.cons (.int za .i64 d.f9) (.cons (.rsl st 2 d.n10 λj=>ZC st (d.r10 j)) (.cons (.rsl st 3 d.n11 λj=>ZF st (d.r11 j)) (.cons (.rsl st 2 d.n12 λj=>ZB st (d.r12 j)) (.cons (.int za .u64 d.f13) .nil))))))))))))))
def Yb(v:V):Za:=⟨v.hd.toInt,v.tl.hd.Zi,λj=>Zba (v.tl.hd.Zn j),v.tl.tl.hd.Zi,λj=>X0 (v.tl.tl.hd.Zn j),v.tl.tl.tl.hd.Zi,λj=>XQ (v.tl.tl.tl.hd.Zn j),v.tl.tl.tl.tl.hd.Zi,λj=>YK (v.tl.tl.tl.tl.hd.Zn j),v.tl.tl.tl.tl.tl.hd.Zi,λj=>XC (v.tl.tl.tl.tl.tl.hd.Zn j),v.tl.tl.tl.tl.tl.tl.hd.Zi,λj=>Xx (v.tl.tl.tl.tl.tl.tl.hd.Zn j),v.tl.tl.tl.tl.tl.tl.tl.hd.Zi,λj=>Vw (v.tl.tl.tl.tl.tl.tl.tl.hd.Zn j),v.tl.tl.tl.tl.tl.tl.tl.tl.hd.Zi,λj=>Vx (v.tl.tl.tl.tl.tl.tl.tl.tl.hd.Zn j),v.tl.tl.tl.tl.tl.tl.tl.tl.tl.hd.toInt,v.tl.tl.tl.tl.tl.tl.tl.tl.tl.tl.hd.Zi,λj=>GA (v.tl.tl.tl.tl.tl.tl.tl.tl.tl.tl.hd.Zn j),v.tl.tl.tl.tl.tl.tl.tl.tl.tl.tl.tl.hd.Zi,λj=>XH (v.tl.tl.tl.tl.tl.tl.tl.tl.tl.tl.tl.hd.Zn j),v.tl.tl.tl.tl.tl.tl.tl.tl.tl.tl.tl.tl.hd.Zi,λj=>Wo (v.tl.tl.tl.tl.tl.tl.tl.tl.tl.tl.tl.tl.hd.Zn j),v.tl.tl.tl.tl.tl.tl.tl.tl.tl.tl.tl.tl.tl.hd.toInt⟩
def Zbw:V:=(.cons (.int za .i64 0) (.cons (.rsl ze 2 0 λ_=>Zmb) (.cons (.rsl ze 1 0 λ_=>Zl6) (.cons (.rsl ze 4 0 λ_=>Zl7) (.cons (.rsl ze 4 0 λ_=>patDVcpu) (.cons (.rsl ze 2 0 λ_=>Zl8) (.cons (.rsl ze 11 0 λ_=>patDOwn) (.cons (.rsl ze 2 0 λ_=>Zi7) (.cons (.rsl ze 5 0 λ_=>patDPort) (.cons (.int za .i64 0) (.cons (.rsl ze 2 0 λ_=>patDTimer) (.cons (.rsl ze 3 0 λ_=>Zl5) (.cons (.rsl ze 2 0 λ_=>patDPut) (.cons (.int za .u64 0) .nil))))))))))))))
structure Y3 where mk::
 (f0:Int)
 (f1:Int)
 (f2:Int)
 (f3:Int)
def Xt(st:Bool)(d:Y3):V:=(.cons (.int za .i64 d.f0) (.cons (.int za .i64 d.f1) (.cons (.int za .u32 d.f2) (.cons (.int za .i64 d.f3) .nil))))
def Je(v:V):Y3:=⟨v.hd.toInt,v.tl.hd.toInt,v.tl.tl.hd.toInt,v.tl.tl.tl.hd.toInt⟩
def Zi8:V:=(.cons (.int za .i64 0) (.cons (.int za .i64 0) (.cons (.int za .u32 0) (.cons (.int za .i64 0) .nil))))
structure DWide where mk::
 (f0:Int)
 (f1:Int)
structure DFrac where mk::
 (f0:Int)
 (f1:Int)
 (f2:Int)
def U6(st:Bool)(d:DFrac):V:=(.cons (.int za .u64 d.f0) (.cons (.int za .u64 d.f1) (.cons (.int za .u64 d.f2) .nil)))
def Zlc(v:V):DFrac:=⟨v.hd.toInt,v.tl.hd.toInt,v.tl.tl.hd.toInt⟩
def patDFrac:V:=(.cons (.int za .u64 0) (.cons (.int za .u64 0) (.cons (.int za .u64 0) .nil)))
structure DRunner where mk::
 (f0:Int)
 (f1:Int)
 (f2:Int)
 (f3:Int)
 (f4:Int)
structure DQueue where mk::
 (n0:Nat) (r0:Nat->DRunner)
structure DMask where mk::
 (f0:Int)
 (f1:Int)
def U7(st:Bool)(d:DMask):V:=(.cons (.int za .u32 d.f0) (.cons (.int za .u32 d.f1) .nil))
def Zld(v:V):DMask:=⟨v.hd.toInt,v.tl.hd.toInt⟩
def patDMask:V:=(.cons (.int za .u32 0) (.cons (.int za .u32 0) .nil))
structure DWish where mk::
 (f0:Int)
 (f1:Int)
 (f2:Int)
 (f3:Int)
structure DWait where mk::
 (f0:Int)
 (f1:Int)
 (b2:Bool)
end Go.Proofs.YthhbdbeglmkijaaGreatDoor
end
