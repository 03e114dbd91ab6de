/- Contracts of functions over rows. Written by a program of ours (wip/gen/con3.py). -/
import Derived.Test.YtnjjailadijdlaaGreatDoorMAp
import Derived.Test.YtnjjailadijdlaaGreatDoorMAq
set_option maxRecDepth 100000
set_option linter.unusedVariables false
set_option linter.unusedSimpArgs false
noncomputable section
namespace Go.Proofs.YtnjjailadijdlaaGreatDoor
open Go.Fw
def Zdr (a:Vh):V:=(ZJ (Zo P [] []) (ZL []) 400 52 (.cons (.agg (XY true a)) .nil)).join
theorem tCheck_p0 (a:Vh):(YH 10 fun c=>(ZJ (Zo P [] []) (ZL []) 400 52 (.cons (.agg (XY true { a with n0:=(0 + c) })) .nil)).total&&((ZJ (Zo P [] []) (ZL []) 400 52 (.cons (.agg (XY true { a with n0:=(0 + c) })) .nil)).Yu&&Y3 (.int false .i64 0) (ZJ (Zo P [] []) (ZL []) 400 52 (.cons (.agg (XY true { a with n0:=(0 + c) })) .nil)).join)) = true:=by kernel_rfl
theorem ZiY (a:Vh) (h0:a.n0<=9):Zi P 52 (.cons (.agg (XY true a)) .nil) (Ye (.int false .i64 0) (Zdr a)):=by
 have key:∀ c,c < 10->Zi P 52 (.cons (.agg (XY true { a with n0:=c })) .nil) (Ye (.int false .i64 0) (ZJ (Zo P [] []) (ZL []) 400 52 (.cons (.agg (XY true { a with n0:=c })) .nil)).join):=fun c hc=>by
  exact Je 0 10 Y1 (Yh hm hn (l:=[]) trivial) rfl 400 (.int false .i64 0) (args:=fun c=>(.cons (.agg (XY true { a with n0:=c })) .nil)) (Has.of hn Tryz.func52 rfl) (tCheck_p0 a) (by omega) (by omega)
 have hc:=key (a.n0) (by omega)
 exact hc
def WM:Con:=XT 52 (.cons (.agg Zij) .nil) (fun x=>Nat.ble (Jj x.hd.inner).n0 9) (fun x=>Ye (.int false .i64 0) (Zdr (Jj x.hd.inner))) (fun x=>(.cons (.agg (XY true (Jj x.hd.inner))) .nil)) (fun x=>(Jj x.hd.inner).n0<=9)
theorem Zhn:WM.Ok P:=WQ (fun _=>rfl) (fun x h=>by simp only [Bool.and_eq_true,Nat.ble_eq] at h ⊢; omega) (fun x h=>ZiY _ h)
def ZcF (a:K6):V:=(ZJ (Zo P [] []) (ZL []) 400 156 (.cons (.agg (X3 true a)) .nil)).join
theorem pCheck_p0 (a:K6):(YH 6 fun c=>(ZJ (Zo P [] []) (ZL []) 400 156 (.cons (.agg (X3 true { a with n0:=(0 + c) })) .nil)).total&&((ZJ (Zo P [] []) (ZL []) 400 156 (.cons (.agg (X3 true { a with n0:=(0 + c) })) .nil)).Yu&&Y3 (.int false .i64 0) (ZJ (Zo P [] []) (ZL []) 400 156 (.cons (.agg (X3 true { a with n0:=(0 + c) })) .nil)).join)) = true:=by kernel_rfl
theorem ZkS (a:K6) (h0:a.n0<=5):Zi P 156 (.cons (.agg (X3 true a)) .nil) (Ye (.int false .i64 0) (ZcF a)):=by
 have key:∀ c,c < 6->Zi P 156 (.cons (.agg (X3 true { a with n0:=c })) .nil) (Ye (.int false .i64 0) (ZJ (Zo P [] []) (ZL []) 400 156 (.cons (.agg (X3 true { a with n0:=c })) .nil)).join):=fun c hc=>by
  exact Je 0 6 Y1 (Yh hm hn (l:=[]) trivial) rfl 400 (.int false .i64 0) (args:=fun c=>(.cons (.agg (X3 true { a with n0:=c })) .nil)) (Has.of hn Tryz.func156 rfl) (pCheck_p0 a) (by omega) (by omega)
 have hc:=key (a.n0) (by omega)
 exact hc
def Qd:Con:=XT 156 (.cons (.agg ZgF) .nil) (fun x=>Nat.ble (Q5 x.hd.inner).n0 5) (fun x=>Ye (.int false .i64 0) (ZcF (Q5 x.hd.inner))) (fun x=>(.cons (.agg (X3 true (Q5 x.hd.inner))) .nil)) (fun x=>(Q5 x.hd.inner).n0<=5)
theorem Ziu:Qd.Ok P:=WQ (fun _=>rfl) (fun x h=>by simp only [Bool.and_eq_true,Nat.ble_eq] at h ⊢; omega) (fun x h=>ZkS _ h)
def dMay_V (a:Yo):V:=(ZJ (Zo P [] []) (ZL []) 400 242 (.cons (.agg (Zm true a)) .nil)).join
theorem dMay_p0 (a:Yo):(YH 1 fun c=>(ZJ (Zo P [] []) (ZL []) 400 242 (.cons (.agg (Zm true a)) .nil)).total&&((ZJ (Zo P [] []) (ZL []) 400 242 (.cons (.agg (Zm true a)) .nil)).Yu&&Y3 (.bool false false) (ZJ (Zo P [] []) (ZL []) 400 242 (.cons (.agg (Zm true a)) .nil)).join)) = true:=by kernel_rfl
theorem Zju (a:Yo)  : Zi P 242 (.cons (.agg (Zm true a)) .nil) (Ye (.bool false false) (dMay_V a)):=by
 exact Je 0 1 Y1 (Yh hm hn (l:=[]) trivial) rfl 400 (.bool false false) (args:=fun c=>(.cons (.agg (Zm true a)) .nil)) (Has.of hn Tryz.func242 rfl) (dMay_p0 a) (c:=0) (Nat.le_refl _) (by omega)
def Ur:Con:=XT 242 (.cons (.agg Zj2) .nil) (fun x=>true) (fun x=>Ye (.bool false false) (dMay_V (Wd x.hd.inner))) (fun x=>(.cons (.agg (Zm true (Wd x.hd.inner))) .nil)) (fun x=>True)
theorem ZeN:Ur.Ok P:=WQ (fun _=>rfl) (fun x h=>by trivial) (fun x h=>Zju _ )
def ZhL (a:Zq):V:=(ZJ (Zo P [] []) (ZL []) 400 129 (.cons (.agg (YT true a)) .nil)).join
theorem wCheck_p0 (a:Zq):(YH 1 fun c=>(ZJ (Zo P [] []) (ZL []) 400 129 (.cons (.agg (YT true a)) .nil)).total&&((ZJ (Zo P [] []) (ZL []) 400 129 (.cons (.agg (YT true a)) .nil)).Yu&&Y3 (.int false .i64 0) (ZJ (Zo P [] []) (ZL []) 400 129 (.cons (.agg (YT true a)) .nil)).join)) = true:=by kernel_rfl
theorem ZiU (a:Zq)  : Zi P 129 (.cons (.agg (YT true a)) .nil) (Ye (.int false .i64 0) (ZhL a)):=by
 exact Je 0 1 Y1 (Yh hm hn (l:=[]) trivial) rfl 400 (.int false .i64 0) (args:=fun c=>(.cons (.agg (YT true a)) .nil)) (Has.of hn Tryz.func129 rfl) (wCheck_p0 a) (c:=0) (Nat.le_refl _) (by omega)
def GR:Con:=XT 129 (.cons (.agg ZcM) .nil) (fun x=>true) (fun x=>Ye (.int false .i64 0) (ZhL (Y0 x.hd.inner))) (fun x=>(.cons (.agg (YT true (Y0 x.hd.inner))) .nil)) (fun x=>True)
theorem ZgX:GR.Ok P:=WQ (fun _=>rfl) (fun x h=>by trivial) (fun x h=>ZiU _ )
def ZeP (a:Zq):V:=(ZJ (Zo P [] []) (ZL []) 400 42 (.cons (.agg (YT true a)) .nil)).join
theorem wRuns_p0 (a:Zq):(YH 1 fun c=>(ZJ (Zo P [] []) (ZL []) 400 42 (.cons (.agg (YT true a)) .nil)).total&&((ZJ (Zo P [] []) (ZL []) 400 42 (.cons (.agg (YT true a)) .nil)).Yu&&Y3 (.bool false false) (ZJ (Zo P [] []) (ZL []) 400 42 (.cons (.agg (YT true a)) .nil)).join)) = true:=by kernel_rfl
theorem ZkG (a:Zq)  : Zi P 42 (.cons (.agg (YT true a)) .nil) (Ye (.bool false false) (ZeP a)):=by
 exact Je 0 1 Y1 (Yh hm hn (l:=[]) trivial) rfl 400 (.bool false false) (args:=fun c=>(.cons (.agg (YT true a)) .nil)) (Has.of hn Tryz.func42 rfl) (wRuns_p0 a) (c:=0) (Nat.le_refl _) (by omega)
def QV:Con:=XT 42 (.cons (.agg ZcM) .nil) (fun x=>true) (fun x=>Ye (.bool false false) (ZeP (Y0 x.hd.inner))) (fun x=>(.cons (.agg (YT true (Y0 x.hd.inner))) .nil)) (fun x=>True)
theorem UO:QV.Ok P:=WQ (fun _=>rfl) (fun x h=>by trivial) (fun x h=>ZkG _ )
def wDue_V (a:Zq):V:=(ZJ (Zo P [] []) (ZL []) 400 49 (.cons (.agg (YT true a)) .nil)).join
theorem wDue_p0 (a:Zq):(YH 1 fun c=>(ZJ (Zo P [] []) (ZL []) 400 49 (.cons (.agg (YT true a)) .nil)).total&&((ZJ (Zo P [] []) (ZL []) 400 49 (.cons (.agg (YT true a)) .nil)).Yu&&Y3 (.tup (.cons (.int false .i64 0) (.cons (.bool false false) .nil))) (ZJ (Zo P [] []) (ZL []) 400 49 (.cons (.agg (YT true a)) .nil)).join)) = true:=by kernel_rfl
theorem Zlc (a:Zq)  : Zi P 49 (.cons (.agg (YT true a)) .nil) (Ye (.tup (.cons (.int false .i64 0) (.cons (.bool false false) .nil))) (wDue_V a)):=by
 exact Je 0 1 Y1 (Yh hm hn (l:=[]) trivial) rfl 400 (.tup (.cons (.int false .i64 0) (.cons (.bool false false) .nil))) (args:=fun c=>(.cons (.agg (YT true a)) .nil)) (Has.of hn Tryz.func49 rfl) (wDue_p0 a) (c:=0) (Nat.le_refl _) (by omega)
def GQ:Con:=XT 49 (.cons (.agg ZcM) .nil) (fun x=>true) (fun x=>Ye (.tup (.cons (.int false .i64 0) (.cons (.bool false false) .nil))) (wDue_V (Y0 x.hd.inner))) (fun x=>(.cons (.agg (YT true (Y0 x.hd.inner))) .nil)) (fun x=>True)
theorem ZgI:GQ.Ok P:=WQ (fun _=>rfl) (fun x h=>by trivial) (fun x h=>Zlc _ )
def ZgD (a:ZK):V:=(ZJ (Zo P [] []) (ZL []) 400 160 (.cons (.agg (ZN true a)) .nil)).join
theorem bCheck_p0 (a:ZK):(YH 1 fun c=>(ZJ (Zo P [] []) (ZL []) 400 160 (.cons (.agg (ZN true a)) .nil)).total&&((ZJ (Zo P [] []) (ZL []) 400 160 (.cons (.agg (ZN true a)) .nil)).Yu&&Y3 (.int false .i64 0) (ZJ (Zo P [] []) (ZL []) 400 160 (.cons (.agg (ZN true a)) .nil)).join)) = true:=by kernel_rfl
theorem ZiX (a:ZK)  : Zi P 160 (.cons (.agg (ZN true a)) .nil) (Ye (.int false .i64 0) (ZgD a)):=by
 exact Je 0 1 Y1 (Yh hm hn (l:=[]) trivial) rfl 400 (.int false .i64 0) (args:=fun c=>(.cons (.agg (ZN true a)) .nil)) (Has.of hn Tryz.func160 rfl) (bCheck_p0 a) (c:=0) (Nat.le_refl _) (by omega)
def Gm:Con:=XT 160 (.cons (.agg Ze2) .nil) (fun x=>true) (fun x=>Ye (.int false .i64 0) (ZgD (WJ x.hd.inner))) (fun x=>(.cons (.agg (ZN true (WJ x.hd.inner))) .nil)) (fun x=>True)
theorem Zir:Gm.Ok P:=WQ (fun _=>rfl) (fun x h=>by trivial) (fun x h=>ZiX _ )
def bDry_V (a:ZK):V:=(ZJ (Zo P [] []) (ZL []) 400 202 (.cons (.agg (ZN true a)) .nil)).join
theorem bDry_p0 (a:ZK):(YH 1 fun c=>(ZJ (Zo P [] []) (ZL []) 400 202 (.cons (.agg (ZN true a)) .nil)).total&&((ZJ (Zo P [] []) (ZL []) 400 202 (.cons (.agg (ZN true a)) .nil)).Yu&&Y3 (.bool false false) (ZJ (Zo P [] []) (ZL []) 400 202 (.cons (.agg (ZN true a)) .nil)).join)) = true:=by kernel_rfl
theorem Zkf (a:ZK)  : Zi P 202 (.cons (.agg (ZN true a)) .nil) (Ye (.bool false false) (bDry_V a)):=by
 exact Je 0 1 Y1 (Yh hm hn (l:=[]) trivial) rfl 400 (.bool false false) (args:=fun c=>(.cons (.agg (ZN true a)) .nil)) (Has.of hn Tryz.func202 rfl) (bDry_p0 a) (c:=0) (Nat.le_refl _) (by omega)
def U8:Con:=XT 202 (.cons (.agg Ze2) .nil) (fun x=>true) (fun x=>Ye (.bool false false) (bDry_V (WJ x.hd.inner))) (fun x=>(.cons (.agg (ZN true (WJ x.hd.inner))) .nil)) (fun x=>True)
theorem ZfH:U8.Ok P:=WQ (fun _=>rfl) (fun x h=>by trivial) (fun x h=>Zkf _ )
def Zil (a:DFrac):V:=(ZJ (Zo P [] []) (ZL []) 400 165 (.cons (.agg (VI true a)) .nil)).join
theorem fCheck_p0 (a:DFrac):(YH 1 fun c=>(ZJ (Zo P [] []) (ZL []) 400 165 (.cons (.agg (VI true a)) .nil)).total&&((ZJ (Zo P [] []) (ZL []) 400 165 (.cons (.agg (VI true a)) .nil)).Yu&&Y3 (.int false .i64 0) (ZJ (Zo P [] []) (ZL []) 400 165 (.cons (.agg (VI true a)) .nil)).join)) = true:=by kernel_rfl
theorem Zmu (a:DFrac)  : Zi P 165 (.cons (.agg (VI true a)) .nil) (Ye (.int false .i64 0) (Zil a)):=by
 exact Je 0 1 Y1 (Yh hm hn (l:=[]) trivial) rfl 400 (.int false .i64 0) (args:=fun c=>(.cons (.agg (VI true a)) .nil)) (Has.of hn Tryz.func165 rfl) (fCheck_p0 a) (c:=0) (Nat.le_refl _) (by omega)
def Uy:Con:=XT 165 (.cons (.agg patDFrac) .nil) (fun x=>true) (fun x=>Ye (.int false .i64 0) (Zil (Zha x.hd.inner))) (fun x=>(.cons (.agg (VI true (Zha x.hd.inner))) .nil)) (fun x=>True)
theorem Zhe:Uy.Ok P:=WQ (fun _=>rfl) (fun x h=>by trivial) (fun x h=>Zmu _ )
def Zgi (a:DMask):V:=(ZJ (Zo P [] []) (ZL []) 400 245 (.cons (.agg (Uo true a)) .nil)).join
theorem mCheck_p0 (a:DMask):(YH 1 fun c=>(ZJ (Zo P [] []) (ZL []) 400 245 (.cons (.agg (Uo true a)) .nil)).total&&((ZJ (Zo P [] []) (ZL []) 400 245 (.cons (.agg (Uo true a)) .nil)).Yu&&Y3 (.int false .i64 0) (ZJ (Zo P [] []) (ZL []) 400 245 (.cons (.agg (Uo true a)) .nil)).join)) = true:=by kernel_rfl
theorem ZjI (a:DMask)  : Zi P 245 (.cons (.agg (Uo true a)) .nil) (Ye (.int false .i64 0) (Zgi a)):=by
 exact Je 0 1 Y1 (Yh hm hn (l:=[]) trivial) rfl 400 (.int false .i64 0) (args:=fun c=>(.cons (.agg (Uo true a)) .nil)) (Has.of hn Tryz.func245 rfl) (mCheck_p0 a) (c:=0) (Nat.le_refl _) (by omega)
def Ul:Con:=XT 245 (.cons (.agg patDMask) .nil) (fun x=>true) (fun x=>Ye (.int false .i64 0) (Zgi (ZgY x.hd.inner))) (fun x=>(.cons (.agg (Uo true (ZgY x.hd.inner))) .nil)) (fun x=>True)
theorem Ze4:Ul.Ok P:=WQ (fun _=>rfl) (fun x h=>by trivial) (fun x h=>ZjI _ )
end Go.Proofs.YtnjjailadijdlaaGreatDoor
end
