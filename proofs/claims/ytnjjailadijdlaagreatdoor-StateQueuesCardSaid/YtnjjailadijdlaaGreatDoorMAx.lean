/- cpuset.List of sets that may be: by their number. -/
import Derived.Test.YtnjjailadijdlaaGreatDoorMAr
import Derived.Test.YtnjjailadijdlaaGreatDoorMAo
set_option maxRecDepth 100000
set_option linter.unusedVariables false
set_option linter.unusedSimpArgs false
noncomputable section
namespace Go.Proofs.YtnjjailadijdlaaGreatDoor
open Go.Fw
def GD (c:Nat):List Nat:=(List.range 8).filter fun i=>Nat.testBit c i
def Xr (c:Nat):Nat:=(GD c).length
def Xl (c j:Nat):DT3:=⟨Int.ofNat ((GD c).getD j 0)⟩
theorem lst_le (c:Nat):Xr c<=8:=by
 have:=List.length_filter_le (fun i=>Nat.testBit c i) (List.range 8)
 rw [List.length_range] at this
 exact this
theorem lst_lt (c j:Nat):0<=(Xl c j).f0/\(Xl c j).f0 < 8:=by
 unfold Xl
 dsimp only
 refine ⟨Int.natCast_nonneg _,?_⟩
 have h:(GD c).getD j 0 < 8:=by
  rw [List.getD_eq_getElem?_getD]
  cases e:(GD c)[j]? with
  | none=>decide
  | some x=>
   have hm:=List.mem_of_getElem? e
   unfold GD at hm
   exact List.mem_range.1 (List.mem_filter.1 hm).1
 have h2:((GD c).getD j 0:Int) < 8:=by exact_mod_cast h
 exact h2
abbrev YC (c:Nat):V:=.rsl false 1 (Xr c) fun j=>Ym false (Xl c j)
abbrev Z8 (c:Nat):Tree V:=ZJ (Zo P [] []) (ZL []) 400 300 (.cons (.int true .u32 (Int.ofNat c)) .nil)
theorem lst_p0:(YH 16 fun c=>(Z8 (0 + c)).total&&((Z8 (0 + c)).Yu&&Yv (Z8 (0 + c)).join (YC (0 + c)))) = true:=by kernel_rfl
theorem lst_p1:(YH 16 fun c=>(Z8 (16 + c)).total&&((Z8 (16 + c)).Yu&&Yv (Z8 (16 + c)).join (YC (16 + c)))) = true:=by kernel_rfl
theorem lst_p2:(YH 16 fun c=>(Z8 (32 + c)).total&&((Z8 (32 + c)).Yu&&Yv (Z8 (32 + c)).join (YC (32 + c)))) = true:=by kernel_rfl
theorem lst_p3:(YH 16 fun c=>(Z8 (48 + c)).total&&((Z8 (48 + c)).Yu&&Yv (Z8 (48 + c)).join (YC (48 + c)))) = true:=by kernel_rfl
theorem lst_p4:(YH 16 fun c=>(Z8 (64 + c)).total&&((Z8 (64 + c)).Yu&&Yv (Z8 (64 + c)).join (YC (64 + c)))) = true:=by kernel_rfl
theorem lst_p5:(YH 16 fun c=>(Z8 (80 + c)).total&&((Z8 (80 + c)).Yu&&Yv (Z8 (80 + c)).join (YC (80 + c)))) = true:=by kernel_rfl
theorem lst_p6:(YH 16 fun c=>(Z8 (96 + c)).total&&((Z8 (96 + c)).Yu&&Yv (Z8 (96 + c)).join (YC (96 + c)))) = true:=by kernel_rfl
theorem lst_p7:(YH 16 fun c=>(Z8 (112 + c)).total&&((Z8 (112 + c)).Yu&&Yv (Z8 (112 + c)).join (YC (112 + c)))) = true:=by kernel_rfl
theorem lst_p8:(YH 16 fun c=>(Z8 (128 + c)).total&&((Z8 (128 + c)).Yu&&Yv (Z8 (128 + c)).join (YC (128 + c)))) = true:=by kernel_rfl
theorem lst_p9:(YH 16 fun c=>(Z8 (144 + c)).total&&((Z8 (144 + c)).Yu&&Yv (Z8 (144 + c)).join (YC (144 + c)))) = true:=by kernel_rfl
theorem lst_p10:(YH 16 fun c=>(Z8 (160 + c)).total&&((Z8 (160 + c)).Yu&&Yv (Z8 (160 + c)).join (YC (160 + c)))) = true:=by kernel_rfl
theorem lst_p11:(YH 16 fun c=>(Z8 (176 + c)).total&&((Z8 (176 + c)).Yu&&Yv (Z8 (176 + c)).join (YC (176 + c)))) = true:=by kernel_rfl
theorem lst_p12:(YH 16 fun c=>(Z8 (192 + c)).total&&((Z8 (192 + c)).Yu&&Yv (Z8 (192 + c)).join (YC (192 + c)))) = true:=by kernel_rfl
theorem lst_p13:(YH 16 fun c=>(Z8 (208 + c)).total&&((Z8 (208 + c)).Yu&&Yv (Z8 (208 + c)).join (YC (208 + c)))) = true:=by kernel_rfl
theorem lst_p14:(YH 16 fun c=>(Z8 (224 + c)).total&&((Z8 (224 + c)).Yu&&Yv (Z8 (224 + c)).join (YC (224 + c)))) = true:=by kernel_rfl
theorem lst_p15:(YH 16 fun c=>(Z8 (240 + c)).total&&((Z8 (240 + c)).Yu&&Yv (Z8 (240 + c)).join (YC (240 + c)))) = true:=by kernel_rfl
theorem lst_lit (c:Nat) (hc:c < 256):Zi P 300 (.cons (.int true .u32 (Int.ofNat c)) .nil) (YC c):=by
 by_cases h0:c < 16
 ·exact WH 0 16 (E:=fun _=>Zo P [] []) (args:=fun c=>.cons (.int true .u32 (Int.ofNat c)) .nil) (res:=YC) (fun _=>Y1) (fun _=>rfl) 400 (Has.of hn Tryz.func300 rfl) lst_p0 (by omega) (by omega) (Yh hm hn (l:=[]) trivial)
 by_cases h1:c < 32
 ·exact WH 16 16 (E:=fun _=>Zo P [] []) (args:=fun c=>.cons (.int true .u32 (Int.ofNat c)) .nil) (res:=YC) (fun _=>Y1) (fun _=>rfl) 400 (Has.of hn Tryz.func300 rfl) lst_p1 (by omega) (by omega) (Yh hm hn (l:=[]) trivial)
 by_cases h2:c < 48
 ·exact WH 32 16 (E:=fun _=>Zo P [] []) (args:=fun c=>.cons (.int true .u32 (Int.ofNat c)) .nil) (res:=YC) (fun _=>Y1) (fun _=>rfl) 400 (Has.of hn Tryz.func300 rfl) lst_p2 (by omega) (by omega) (Yh hm hn (l:=[]) trivial)
 by_cases h3:c < 64
 ·exact WH 48 16 (E:=fun _=>Zo P [] []) (args:=fun c=>.cons (.int true .u32 (Int.ofNat c)) .nil) (res:=YC) (fun _=>Y1) (fun _=>rfl) 400 (Has.of hn Tryz.func300 rfl) lst_p3 (by omega) (by omega) (Yh hm hn (l:=[]) trivial)
 by_cases h4:c < 80
 ·exact WH 64 16 (E:=fun _=>Zo P [] []) (args:=fun c=>.cons (.int true .u32 (Int.ofNat c)) .nil) (res:=YC) (fun _=>Y1) (fun _=>rfl) 400 (Has.of hn Tryz.func300 rfl) lst_p4 (by omega) (by omega) (Yh hm hn (l:=[]) trivial)
 by_cases h5:c < 96
 ·exact WH 80 16 (E:=fun _=>Zo P [] []) (args:=fun c=>.cons (.int true .u32 (Int.ofNat c)) .nil) (res:=YC) (fun _=>Y1) (fun _=>rfl) 400 (Has.of hn Tryz.func300 rfl) lst_p5 (by omega) (by omega) (Yh hm hn (l:=[]) trivial)
 by_cases h6:c < 112
 ·exact WH 96 16 (E:=fun _=>Zo P [] []) (args:=fun c=>.cons (.int true .u32 (Int.ofNat c)) .nil) (res:=YC) (fun _=>Y1) (fun _=>rfl) 400 (Has.of hn Tryz.func300 rfl) lst_p6 (by omega) (by omega) (Yh hm hn (l:=[]) trivial)
 by_cases h7:c < 128
 ·exact WH 112 16 (E:=fun _=>Zo P [] []) (args:=fun c=>.cons (.int true .u32 (Int.ofNat c)) .nil) (res:=YC) (fun _=>Y1) (fun _=>rfl) 400 (Has.of hn Tryz.func300 rfl) lst_p7 (by omega) (by omega) (Yh hm hn (l:=[]) trivial)
 by_cases h8:c < 144
 ·exact WH 128 16 (E:=fun _=>Zo P [] []) (args:=fun c=>.cons (.int true .u32 (Int.ofNat c)) .nil) (res:=YC) (fun _=>Y1) (fun _=>rfl) 400 (Has.of hn Tryz.func300 rfl) lst_p8 (by omega) (by omega) (Yh hm hn (l:=[]) trivial)
 by_cases h9:c < 160
 ·exact WH 144 16 (E:=fun _=>Zo P [] []) (args:=fun c=>.cons (.int true .u32 (Int.ofNat c)) .nil) (res:=YC) (fun _=>Y1) (fun _=>rfl) 400 (Has.of hn Tryz.func300 rfl) lst_p9 (by omega) (by omega) (Yh hm hn (l:=[]) trivial)
 by_cases h10:c < 176
 ·exact WH 160 16 (E:=fun _=>Zo P [] []) (args:=fun c=>.cons (.int true .u32 (Int.ofNat c)) .nil) (res:=YC) (fun _=>Y1) (fun _=>rfl) 400 (Has.of hn Tryz.func300 rfl) lst_p10 (by omega) (by omega) (Yh hm hn (l:=[]) trivial)
 by_cases h11:c < 192
 ·exact WH 176 16 (E:=fun _=>Zo P [] []) (args:=fun c=>.cons (.int true .u32 (Int.ofNat c)) .nil) (res:=YC) (fun _=>Y1) (fun _=>rfl) 400 (Has.of hn Tryz.func300 rfl) lst_p11 (by omega) (by omega) (Yh hm hn (l:=[]) trivial)
 by_cases h12:c < 208
 ·exact WH 192 16 (E:=fun _=>Zo P [] []) (args:=fun c=>.cons (.int true .u32 (Int.ofNat c)) .nil) (res:=YC) (fun _=>Y1) (fun _=>rfl) 400 (Has.of hn Tryz.func300 rfl) lst_p12 (by omega) (by omega) (Yh hm hn (l:=[]) trivial)
 by_cases h13:c < 224
 ·exact WH 208 16 (E:=fun _=>Zo P [] []) (args:=fun c=>.cons (.int true .u32 (Int.ofNat c)) .nil) (res:=YC) (fun _=>Y1) (fun _=>rfl) 400 (Has.of hn Tryz.func300 rfl) lst_p13 (by omega) (by omega) (Yh hm hn (l:=[]) trivial)
 by_cases h14:c < 240
 ·exact WH 224 16 (E:=fun _=>Zo P [] []) (args:=fun c=>.cons (.int true .u32 (Int.ofNat c)) .nil) (res:=YC) (fun _=>Y1) (fun _=>rfl) 400 (Has.of hn Tryz.func300 rfl) lst_p14 (by omega) (by omega) (Yh hm hn (l:=[]) trivial)
 exact WH 240 16 (E:=fun _=>Zo P [] []) (args:=fun c=>.cons (.int true .u32 (Int.ofNat c)) .nil) (res:=YC) (fun _=>Y1) (fun _=>rfl) 400 (Has.of hn Tryz.func300 rfl) lst_p15 (by omega) (by omega) (Yh hm hn (l:=[]) trivial)
theorem lst_meets (a:Int) (h:0<=a/\a < 256):Zi P 300 (.cons (.int false .u32 a) .nil) (YC a.toNat):=by
 obtain ⟨c,rfl⟩:=Int.eq_ofNat_of_zero_le h.1
 refine Zi.args (lst_lit c (by omega)) fun F w n m xs hx=>?_
 have e:=((Y7 (.cons (.int false .u32 (c:Int)) .nil) n m).2 xs).2 hx
 exact ((Y7 (.cons (.int true .u32 (Int.ofNat c)) .nil) n m).2 xs).1 e
def c_lst:Con:=Yf 300 (fun x=>.cons (.int false .u32 x.hd.toInt) .nil) (fun x=>YC x.hd.toInt.toNat) (fun x=>0<=x.hd.toInt/\x.hd.toInt < 256)
theorem c_lst_ok:c_lst.Ok P:=Yt fun x h=>lst_meets _ h
end Go.Proofs.YtnjjailadijdlaaGreatDoor
end
