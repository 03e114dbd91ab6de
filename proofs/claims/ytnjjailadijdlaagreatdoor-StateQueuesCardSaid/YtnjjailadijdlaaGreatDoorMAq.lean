/- The program's data, as Lean structures. Written by a program of ours (wip/gen/con3.py). -/
import Derived.Test.YtnjjailadijdlaaGreatDoorMAo
set_option maxRecDepth 100000
set_option linter.unusedVariables false
set_option linter.unusedSimpArgs false
noncomputable section
namespace Go.Proofs.YtnjjailadijdlaaGreatDoor
open Go.Fw
structure DSeat where mk ::
 (f0:Int)
 (f1:Int)
def Yk (st:Bool) (d:DSeat):V:=(.cons (.int false .i64 d.f0) (.cons (.int false .i64 d.f1) .nil))
def ZdK (v:V):DSeat:=⟨v.hd.toInt,v.tl.hd.toInt⟩
def patDSeat:V:=(.cons (.int false .i64 0) (.cons (.int false .i64 0) .nil))
structure Vh where mk ::
 (n0:Nat) (r0:Nat->DSeat)
def XY (st:Bool) (d:Vh):V:=(.cons (.rsl st 2 d.n0 fun j=>Yk st (d.r0 j)) .nil)
def Jj (v:V):Vh:=⟨v.hd.ZC,fun j=>ZdK (v.hd.ZH j)⟩
def Zij:V:=(.cons (.rsl true 2 0 fun _=>patDSeat) .nil)
structure Zw where mk ::
 (f0:Int)
def ZW (st:Bool) (d:Zw):V:=(.cons (.int false .u32 d.f0) .nil)
def WA (v:V):Zw:=⟨v.hd.toInt⟩
def patDCpus:V:=(.cons (.int false .u32 0) .nil)
structure K6 where mk ::
 (n0:Nat) (r0:Nat->Zw)
def X3 (st:Bool) (d:K6):V:=(.cons (.rsl st 1 d.n0 fun j=>ZW st (d.r0 j)) .nil)
def Q5 (v:V):K6:=⟨v.hd.ZC,fun j=>WA (v.hd.ZH j)⟩
def ZgF:V:=(.cons (.rsl true 1 0 fun _=>patDCpus) .nil)
structure Yo where mk ::
 (f0:Int)
 (f1:Int)
 (f2:Int)
 (f3:Int)
def Zm (st:Bool) (d:Yo):V:=(.cons (.int false .i64 d.f0) (.cons (.int false .i64 d.f1) (.cons (.int false .i64 d.f2) (.cons (.int false .i64 d.f3) .nil))))
def Wd (v:V):Yo:=⟨v.hd.toInt,v.tl.hd.toInt,v.tl.tl.hd.toInt,v.tl.tl.tl.hd.toInt⟩
def Zj2:V:=(.cons (.int false .i64 0) (.cons (.int false .i64 0) (.cons (.int false .i64 0) (.cons (.int false .i64 0) .nil))))
structure ZP where mk ::
 (f0:Int)
 (f1:Int)
 (f2:Int)
 (f3:Int)
def Zk (st:Bool) (d:ZP):V:=(.cons (.int false .i64 d.f0) (.cons (.int false .i64 d.f1) (.cons (.int false .u32 d.f2) (.cons (.int false .u32 d.f3) .nil))))
def Y8 (v:V):ZP:=⟨v.hd.toInt,v.tl.hd.toInt,v.tl.tl.hd.toInt,v.tl.tl.tl.hd.toInt⟩
structure Zf where mk ::
 (n0:Nat) (r0:Nat->Yo)
 (n1:Nat) (r1:Nat->ZP)
def Qi (st:Bool) (d:Zf):V:=(.cons (.rsl st 4 d.n0 fun j=>Zm st (d.r0 j)) (.cons (.rsl st 4 d.n1 fun j=>Zk st (d.r1 j)) .nil))
def ZY (v:V):Zf:=⟨v.hd.ZC,fun j=>Wd (v.hd.ZH j),v.tl.hd.ZC,fun j=>Y8 (v.tl.hd.ZH j)⟩
structure DT3 where mk ::
 (f0:Int)
def Ym (st:Bool) (d:DT3):V:=(.cons (.int false .i64 d.f0) .nil)
def YF (v:V):DT3:=⟨v.hd.toInt⟩
structure Wq where mk ::
 (f0:Int)
 (n1:Nat) (r1:Nat->DT3)
def ZE (st:Bool) (d:Wq):V:=(.cons (.int false .i64 d.f0) (.cons (.rsl st 1 d.n1 fun j=>Ym st (d.r1 j)) .nil))
def ZdV (v:V):Wq:=⟨v.hd.toInt,v.tl.hd.ZC,fun j=>YF (v.tl.hd.ZH j)⟩
structure Yw where mk ::
 (n0:Nat) (r0:Nat->Wq)
def Zf3 (st:Bool) (d:Yw):V:=(.cons (.rsl st 2 d.n0 fun j=>ZE st (d.r0 j)) .nil)
def Vy (v:V):Yw:=⟨v.hd.ZC,fun j=>ZdV (v.hd.ZH j)⟩
structure Xz where mk ::
 (f0:Int)
 (f1:Int)
 (f2:Int)
 (b3:Bool)
 (b4:Bool)
def ZG (st:Bool) (d:Xz):V:=(.cons (.int false .i64 d.f0) (.cons (.int false .i64 d.f1) (.cons (.int false .i64 d.f2) (.cons (.bool false d.b3) (.cons (.bool false d.b4) .nil)))))
def JE (v:V):Xz:=⟨v.hd.toInt,v.tl.hd.toInt,v.tl.tl.hd.toInt,v.tl.tl.tl.hd.toBool,v.tl.tl.tl.tl.hd.toBool⟩
structure Yl where mk ::
 (n0:Nat) (r0:Nat->Xz)
def Zep (st:Bool) (d:Yl):V:=(.cons (.rsl st 5 d.n0 fun j=>ZG st (d.r0 j)) .nil)
def GU (v:V):Yl:=⟨v.hd.ZC,fun j=>JE (v.hd.ZH j)⟩
structure Vi where mk ::
 (f0:Int)
 (f1:Int)
def Zr (st:Bool) (d:Vi):V:=(.cons (.int false .i64 d.f0) (.cons (.int false .i64 d.f1) .nil))
def G5 (v:V):Vi:=⟨v.hd.toInt,v.tl.hd.toInt⟩
structure Yc where mk ::
 (f0:Int)
 (n1:Nat) (r1:Nat->Vi)
def Kv (st:Bool) (d:Yc):V:=(.cons (.int false .i64 d.f0) (.cons (.rsl st 2 d.n1 fun j=>Zr st (d.r1 j)) .nil))
def ZA (v:V):Yc:=⟨v.hd.toInt,v.tl.hd.ZC,fun j=>G5 (v.tl.hd.ZH j)⟩
structure YM where mk ::
 (f0:Int)
 (f1:Int)
 (f2:Int)
def Zl (st:Bool) (d:YM):V:=(.cons (.int false .i64 d.f0) (.cons (.int false .i64 d.f1) (.cons (.int false .i64 d.f2) .nil)))
def ZO (v:V):YM:=⟨v.hd.toInt,v.tl.hd.toInt,v.tl.tl.hd.toInt⟩
def patDAlarm:V:=(.cons (.int false .i64 0) (.cons (.int false .i64 0) (.cons (.int false .i64 0) .nil)))
structure YS where mk ::
 (f0:Int)
 (n1:Nat) (r1:Nat->Vi)
 (n2:Nat) (r2:Nat->YM)
def UG (st:Bool) (d:YS):V:=(.cons (.int false .i64 d.f0) (.cons (.rsl st 2 d.n1 fun j=>Zr st (d.r1 j)) (.cons (.rsl st 3 d.n2 fun j=>Zl st (d.r2 j)) .nil)))
def X0 (v:V):YS:=⟨v.hd.toInt,v.tl.hd.ZC,fun j=>G5 (v.tl.hd.ZH j),v.tl.tl.hd.ZC,fun j=>ZO (v.tl.tl.hd.ZH j)⟩
structure DOwn where mk ::
 (f0:Int)
 (f1:Int)
 (f2:Int)
 (f3:Int)
 (f4:Int)
 (f5:Int)
 (f6:Int)
 (f7:Int)
 (f8:Int)
 (f9:Int)
 (f10:Int)
def ZT (st:Bool) (d:DOwn):V:=(.cons (.int false .i64 d.f0) (.cons (.int false .i64 d.f1) (.cons (.int false .i64 d.f2) (.cons (.int false .u32 d.f3) (.cons (.int false .i64 d.f4) (.cons (.int false .u64 d.f5) (.cons (.int false .u64 d.f6) (.cons (.int false .u64 d.f7) (.cons (.int false .u64 d.f8) (.cons (.int false .i64 d.f9) (.cons (.int false .i64 d.f10) .nil)))))))))))
def ZfA (v:V):DOwn:=⟨v.hd.toInt,v.tl.hd.toInt,v.tl.tl.hd.toInt,v.tl.tl.tl.hd.toInt,v.tl.tl.tl.tl.hd.toInt,v.tl.tl.tl.tl.tl.hd.toInt,v.tl.tl.tl.tl.tl.tl.hd.toInt,v.tl.tl.tl.tl.tl.tl.tl.hd.toInt,v.tl.tl.tl.tl.tl.tl.tl.tl.hd.toInt,v.tl.tl.tl.tl.tl.tl.tl.tl.tl.hd.toInt,v.tl.tl.tl.tl.tl.tl.tl.tl.tl.tl.hd.toInt⟩
structure ZK where mk ::
 (f0:Int)
 (f1:Int)
def ZN (st:Bool) (d:ZK):V:=(.cons (.int false .i64 d.f0) (.cons (.int false .i64 d.f1) .nil))
def WJ (v:V):ZK:=⟨v.hd.toInt,v.tl.hd.toInt⟩
def Ze2:V:=(.cons (.int false .i64 0) (.cons (.int false .i64 0) .nil))
structure DPut where mk ::
 (f0:Int)
 (f1:Int)
def Yq (st:Bool) (d:DPut):V:=(.cons (.int false .i64 d.f0) (.cons (.int false .i64 d.f1) .nil))
def ZfZ (v:V):DPut:=⟨v.hd.toInt,v.tl.hd.toInt⟩
structure Zb where mk ::
 (f0:Int)
 (n1:Nat) (r1:Nat->DSeat)
 (n2:Nat) (r2:Nat->Zw)
 (n3:Nat) (r3:Nat->Yo)
 (n4:Nat) (r4:Nat->ZP)
 (n5:Nat) (r5:Nat->Wq)
 (n6:Nat) (r6:Nat->DOwn)
 (n7:Nat) (r7:Nat->ZK)
 (n8:Nat) (r8:Nat->Xz)
 (f9:Int)
 (n10:Nat) (r10:Nat->Vi)
 (n11:Nat) (r11:Nat->YM)
 (n12:Nat) (r12:Nat->DPut)
 (f13:Int)
def Zt (st:Bool) (d:Zb):V:=(.cons (.int false .i64 d.f0) (.cons (.rsl st 2 d.n1 fun j=>Yk st (d.r1 j)) (.cons (.rsl st 1 d.n2 fun j=>ZW st (d.r2 j)) (.cons (.rsl st 4 d.n3 fun j=>Zm st (d.r3 j)) (.cons (.rsl st 4 d.n4 fun j=>Zk st (d.r4 j)) (.cons (.rsl st 2 d.n5 fun j=>ZE st (d.r5 j)) (.cons (.rsl st 11 d.n6 fun j=>ZT st (d.r6 j)) (.cons (.rsl st 2 d.n7 fun j=>ZN st (d.r7 j)) (.cons (.rsl st 5 d.n8 fun j=>ZG st (d.r8 j)) (.cons (.int false .i64 d.f9) (.cons (.rsl st 2 d.n10 fun j=>Zr st (d.r10 j)) (.cons (.rsl st 3 d.n11 fun j=>Zl st (d.r11 j)) (.cons (.rsl st 2 d.n12 fun j=>Yq st (d.r12 j)) (.cons (.int false .u64 d.f13) .nil))))))))))))))
def Qm (v:V):Zb:=⟨v.hd.toInt,v.tl.hd.ZC,fun j=>ZdK (v.tl.hd.ZH j),v.tl.tl.hd.ZC,fun j=>WA (v.tl.tl.hd.ZH j),v.tl.tl.tl.hd.ZC,fun j=>Wd (v.tl.tl.tl.hd.ZH j),v.tl.tl.tl.tl.hd.ZC,fun j=>Y8 (v.tl.tl.tl.tl.hd.ZH j),v.tl.tl.tl.tl.tl.hd.ZC,fun j=>ZdV (v.tl.tl.tl.tl.tl.hd.ZH j),v.tl.tl.tl.tl.tl.tl.hd.ZC,fun j=>ZfA (v.tl.tl.tl.tl.tl.tl.hd.ZH j),v.tl.tl.tl.tl.tl.tl.tl.hd.ZC,fun j=>WJ (v.tl.tl.tl.tl.tl.tl.tl.hd.ZH j),v.tl.tl.tl.tl.tl.tl.tl.tl.hd.ZC,fun j=>JE (v.tl.tl.tl.tl.tl.tl.tl.tl.hd.ZH j),v.tl.tl.tl.tl.tl.tl.tl.tl.tl.hd.toInt,v.tl.tl.tl.tl.tl.tl.tl.tl.tl.tl.hd.ZC,fun j=>G5 (v.tl.tl.tl.tl.tl.tl.tl.tl.tl.tl.hd.ZH j),v.tl.tl.tl.tl.tl.tl.tl.tl.tl.tl.tl.hd.ZC,fun j=>ZO (v.tl.tl.tl.tl.tl.tl.tl.tl.tl.tl.tl.hd.ZH j),v.tl.tl.tl.tl.tl.tl.tl.tl.tl.tl.tl.tl.hd.ZC,fun j=>ZfZ (v.tl.tl.tl.tl.tl.tl.tl.tl.tl.tl.tl.tl.hd.ZH j),v.tl.tl.tl.tl.tl.tl.tl.tl.tl.tl.tl.tl.tl.hd.toInt⟩
structure Zq where mk ::
 (f0:Int)
 (f1:Int)
 (f2:Int)
 (f3:Int)
def YT (st:Bool) (d:Zq):V:=(.cons (.int false .i64 d.f0) (.cons (.int false .i64 d.f1) (.cons (.int false .u32 d.f2) (.cons (.int false .i64 d.f3) .nil))))
def Y0 (v:V):Zq:=⟨v.hd.toInt,v.tl.hd.toInt,v.tl.tl.hd.toInt,v.tl.tl.tl.hd.toInt⟩
def ZcM:V:=(.cons (.int false .i64 0) (.cons (.int false .i64 0) (.cons (.int false .u32 0) (.cons (.int false .i64 0) .nil))))
structure DWide where mk ::
 (f0:Int)
 (f1:Int)
structure DFrac where mk ::
 (f0:Int)
 (f1:Int)
 (f2:Int)
def VI (st:Bool) (d:DFrac):V:=(.cons (.int false .u64 d.f0) (.cons (.int false .u64 d.f1) (.cons (.int false .u64 d.f2) .nil)))
def Zha (v:V):DFrac:=⟨v.hd.toInt,v.tl.hd.toInt,v.tl.tl.hd.toInt⟩
def patDFrac:V:=(.cons (.int false .u64 0) (.cons (.int false .u64 0) (.cons (.int false .u64 0) .nil)))
structure Xv where mk ::
 (f0:Int)
 (f1:Int)
 (f2:Int)
 (f3:Int)
 (f4:Int)
def Xy (st:Bool) (d:Xv):V:=(.cons (.int false .i64 d.f0) (.cons (.int false .i64 d.f1) (.cons (.int false .u64 d.f2) (.cons (.int false .u64 d.f3) (.cons (.int false .u64 d.f4) .nil)))))
def QK (v:V):Xv:=⟨v.hd.toInt,v.tl.hd.toInt,v.tl.tl.hd.toInt,v.tl.tl.tl.hd.toInt,v.tl.tl.tl.tl.hd.toInt⟩
structure DQueue where mk ::
 (n0:Nat) (r0:Nat->Xv)
structure DMask where mk ::
 (f0:Int)
 (f1:Int)
def Uo (st:Bool) (d:DMask):V:=(.cons (.int false .u32 d.f0) (.cons (.int false .u32 d.f1) .nil))
def ZgY (v:V):DMask:=⟨v.hd.toInt,v.tl.hd.toInt⟩
def patDMask:V:=(.cons (.int false .u32 0) (.cons (.int false .u32 0) .nil))
structure XW where mk ::
 (f0:Int)
 (f1:Int)
 (f2:Int)
 (f3:Int)
def Wt (st:Bool) (d:XW):V:=(.cons (.int false .i64 d.f0) (.cons (.int false .i64 d.f1) (.cons (.int false .u32 d.f2) (.cons (.int false .u32 d.f3) .nil))))
def Q0 (v:V):XW:=⟨v.hd.toInt,v.tl.hd.toInt,v.tl.tl.hd.toInt,v.tl.tl.tl.hd.toInt⟩
structure XR where mk ::
 (f0:Int)
 (f1:Int)
 (b2:Bool)
def Qr (st:Bool) (d:XR):V:=(.cons (.int false .i64 d.f0) (.cons (.int false .u64 d.f1) (.cons (.bool false d.b2) .nil)))
def Js (v:V):XR:=⟨v.hd.toInt,v.tl.hd.toInt,v.tl.tl.hd.toBool⟩
end Go.Proofs.YtnjjailadijdlaaGreatDoor
end
