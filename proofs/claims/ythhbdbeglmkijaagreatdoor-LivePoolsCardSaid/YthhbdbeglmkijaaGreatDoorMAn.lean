/- cpuset.List of sets that may be: by their number. -/
import Derived.Test.YthhbdbeglmkijaaGreatDoorMAj
import Derived.Test.YthhbdbeglmkijaaGreatDoorMAg
set_option maxRecDepth 100000
set_option linter.unusedVariables false
set_option linter.unusedSimpArgs false
noncomputable section
open Int renaming ofNat→zT
open Bool renaming false→za,true→ze
namespace Go.Proofs.YthhbdbeglmkijaaGreatDoor
open Go.Fw
def Zbq(c:Nat):List Nat:=(List.range 8).filter λi=>Nat.testBit c i
def Xo(c:Nat):Nat:=(Zbq c).length
def Xh(c j:Nat):DT3:=⟨zT ((Zbq c).getD j 0)⟩
theorem lst_le(c:Nat):Xo c<=8:=by
 have:=List.length_filter_le (λi=>Nat.testBit c i) (List.range 8)
 rw[List.length_range]at this
 exact this
theorem lst_lt(c j:Nat):0<=(Xh c j).f0/\(Xh c j).f0<8:=by
 unfold Xh
 dsimp only
 refine⟨Int.natCast_nonneg _,?_⟩
 have h:(Zbq c).getD j 0<8:=by
  rw[List.getD_eq_getElem?_getD]
  cases e:(Zbq c)[j]? with
  |none=>decide
  |some x=>
   have hm:=List.mem_of_getElem? e
   unfold Zbq at hm
   exact List.mem_range.1 (List.mem_filter.1 hm).1
 have h2:((Zbq c).getD j 0:Int)<8:=by exact_mod_cast h
 exact h2
abbrev Xb(c:Nat):V:=.rsl za 1 (Xo c) λj=>ZP za (Xh c j)
abbrev Yz(c:Nat):Tree V:=Yd (ZN P [] []) (Yf []) 400 166 (.cons (.int ze .u32 (zT c)) .nil)
theorem lst_p0:(Xl 16 λc=>(Yz (0+c)).total&&((Yz (0+c)).Y1&&YU (Yz (0+c)).join (Xb (0+c))))=ze:=by kernel_rfl
theorem lst_p1:(Xl 16 λc=>(Yz (16+c)).total&&((Yz (16+c)).Y1&&YU (Yz (16+c)).join (Xb (16+c))))=ze:=by kernel_rfl
theorem lst_p2:(Xl 16 λc=>(Yz (32+c)).total&&((Yz (32+c)).Y1&&YU (Yz (32+c)).join (Xb (32+c))))=ze:=by kernel_rfl
theorem lst_p3:(Xl 16 λc=>(Yz (48+c)).total&&((Yz (48+c)).Y1&&YU (Yz (48+c)).join (Xb (48+c))))=ze:=by kernel_rfl
theorem lst_p4:(Xl 16 λc=>(Yz (64+c)).total&&((Yz (64+c)).Y1&&YU (Yz (64+c)).join (Xb (64+c))))=ze:=by kernel_rfl
theorem lst_p5:(Xl 16 λc=>(Yz (80+c)).total&&((Yz (80+c)).Y1&&YU (Yz (80+c)).join (Xb (80+c))))=ze:=by kernel_rfl
theorem lst_p6:(Xl 16 λc=>(Yz (96+c)).total&&((Yz (96+c)).Y1&&YU (Yz (96+c)).join (Xb (96+c))))=ze:=by kernel_rfl
theorem lst_p7:(Xl 16 λc=>(Yz (112+c)).total&&((Yz (112+c)).Y1&&YU (Yz (112+c)).join (Xb (112+c))))=ze:=by kernel_rfl
theorem lst_p8:(Xl 16 λc=>(Yz (128+c)).total&&((Yz (128+c)).Y1&&YU (Yz (128+c)).join (Xb (128+c))))=ze:=by kernel_rfl
theorem lst_p9:(Xl 16 λc=>(Yz (144+c)).total&&((Yz (144+c)).Y1&&YU (Yz (144+c)).join (Xb (144+c))))=ze:=by kernel_rfl
theorem lst_p10:(Xl 16 λc=>(Yz (160+c)).total&&((Yz (160+c)).Y1&&YU (Yz (160+c)).join (Xb (160+c))))=ze:=by kernel_rfl
theorem lst_p11:(Xl 16 λc=>(Yz (176+c)).total&&((Yz (176+c)).Y1&&YU (Yz (176+c)).join (Xb (176+c))))=ze:=by kernel_rfl
theorem lst_p12:(Xl 16 λc=>(Yz (192+c)).total&&((Yz (192+c)).Y1&&YU (Yz (192+c)).join (Xb (192+c))))=ze:=by kernel_rfl
theorem lst_p13:(Xl 16 λc=>(Yz (208+c)).total&&((Yz (208+c)).Y1&&YU (Yz (208+c)).join (Xb (208+c))))=ze:=by kernel_rfl
theorem lst_p14:(Xl 16 λc=>(Yz (224+c)).total&&((Yz (224+c)).Y1&&YU (Yz (224+c)).join (Xb (224+c))))=ze:=by kernel_rfl
theorem lst_p15:(Xl 16 λc=>(Yz (240+c)).total&&((Yz (240+c)).Y1&&YU (Yz (240+c)).join (Xb (240+c))))=ze:=by kernel_rfl
theorem lst_lit(c:Nat)(hc:c<256):Zi P 166 (.cons (.int ze .u32 (zT c)) .nil) (Xb c):=by
 by_cases h0:c<16
 ·exact QV 0 16 (E:=λ_=>ZN P [] []) (args:=λc=>.cons (.int ze .u32 (zT c)) .nil) (res:=Xb) (λ_=>XK) (λ_=>rfl) 400 (Has.of hn Tryz.func166 rfl) lst_p0 (by omega) (by omega) (YJ hm hn (l:=[]) trivial)
 by_cases h1:c<32
 ·exact QV 16 16 (E:=λ_=>ZN P [] []) (args:=λc=>.cons (.int ze .u32 (zT c)) .nil) (res:=Xb) (λ_=>XK) (λ_=>rfl) 400 (Has.of hn Tryz.func166 rfl) lst_p1 (by omega) (by omega) (YJ hm hn (l:=[]) trivial)
 by_cases h2:c<48
 ·exact QV 32 16 (E:=λ_=>ZN P [] []) (args:=λc=>.cons (.int ze .u32 (zT c)) .nil) (res:=Xb) (λ_=>XK) (λ_=>rfl) 400 (Has.of hn Tryz.func166 rfl) lst_p2 (by omega) (by omega) (YJ hm hn (l:=[]) trivial)
 by_cases h3:c<64
 ·exact QV 48 16 (E:=λ_=>ZN P [] []) (args:=λc=>.cons (.int ze .u32 (zT c)) .nil) (res:=Xb) (λ_=>XK) (λ_=>rfl) 400 (Has.of hn Tryz.func166 rfl) lst_p3 (by omega) (by omega) (YJ hm hn (l:=[]) trivial)
 by_cases h4:c<80
 ·exact QV 64 16 (E:=λ_=>ZN P [] []) (args:=λc=>.cons (.int ze .u32 (zT c)) .nil) (res:=Xb) (λ_=>XK) (λ_=>rfl) 400 (Has.of hn Tryz.func166 rfl) lst_p4 (by omega) (by omega) (YJ hm hn (l:=[]) trivial)
 by_cases h5:c<96
 ·exact QV 80 16 (E:=λ_=>ZN P [] []) (args:=λc=>.cons (.int ze .u32 (zT c)) .nil) (res:=Xb) (λ_=>XK) (λ_=>rfl) 400 (Has.of hn Tryz.func166 rfl) lst_p5 (by omega) (by omega) (YJ hm hn (l:=[]) trivial)
 by_cases h6:c<112
 ·exact QV 96 16 (E:=λ_=>ZN P [] []) (args:=λc=>.cons (.int ze .u32 (zT c)) .nil) (res:=Xb) (λ_=>XK) (λ_=>rfl) 400 (Has.of hn Tryz.func166 rfl) lst_p6 (by omega) (by omega) (YJ hm hn (l:=[]) trivial)
 by_cases h7:c<128
 ·exact QV 112 16 (E:=λ_=>ZN P [] []) (args:=λc=>.cons (.int ze .u32 (zT c)) .nil) (res:=Xb) (λ_=>XK) (λ_=>rfl) 400 (Has.of hn Tryz.func166 rfl) lst_p7 (by omega) (by omega) (YJ hm hn (l:=[]) trivial)
 by_cases h8:c<144
 ·exact QV 128 16 (E:=λ_=>ZN P [] []) (args:=λc=>.cons (.int ze .u32 (zT c)) .nil) (res:=Xb) (λ_=>XK) (λ_=>rfl) 400 (Has.of hn Tryz.func166 rfl) lst_p8 (by omega) (by omega) (YJ hm hn (l:=[]) trivial)
 by_cases h9:c<160
 ·exact QV 144 16 (E:=λ_=>ZN P [] []) (args:=λc=>.cons (.int ze .u32 (zT c)) .nil) (res:=Xb) (λ_=>XK) (λ_=>rfl) 400 (Has.of hn Tryz.func166 rfl) lst_p9 (by omega) (by omega) (YJ hm hn (l:=[]) trivial)
 by_cases h10:c<176
 ·exact QV 160 16 (E:=λ_=>ZN P [] []) (args:=λc=>.cons (.int ze .u32 (zT c)) .nil) (res:=Xb) (λ_=>XK) (λ_=>rfl) 400 (Has.of hn Tryz.func166 rfl) lst_p10 (by omega) (by omega) (YJ hm hn (l:=[]) trivial)
 by_cases h11:c<192
 ·exact QV 176 16 (E:=λ_=>ZN P [] []) (args:=λc=>.cons (.int ze .u32 (zT c)) .nil) (res:=Xb) (λ_=>XK) (λ_=>rfl) 400 (Has.of hn Tryz.func166 rfl) lst_p11 (by omega) (by omega) (YJ hm hn (l:=[]) trivial)
 by_cases h12:c<208
 ·exact QV 192 16 (E:=λ_=>ZN P [] []) (args:=λc=>.cons (.int ze .u32 (zT c)) .nil) (res:=Xb) (λ_=>XK) (λ_=>rfl) 400 (Has.of hn Tryz.func166 rfl) lst_p12 (by omega) (by omega) (YJ hm hn (l:=[]) trivial)
 by_cases h13:c<224
 ·exact QV 208 16 (E:=λ_=>ZN P [] []) (args:=λc=>.cons (.int ze .u32 (zT c)) .nil) (res:=Xb) (λ_=>XK) (λ_=>rfl) 400 (Has.of hn Tryz.func166 rfl) lst_p13 (by omega) (by omega) (YJ hm hn (l:=[]) trivial)
 by_cases h14:c<240
 ·exact QV 224 16 (E:=λ_=>ZN P [] []) (args:=λc=>.cons (.int ze .u32 (zT c)) .nil) (res:=Xb) (λ_=>XK) (λ_=>rfl) 400 (Has.of hn Tryz.func166 rfl) lst_p14 (by omega) (by omega) (YJ hm hn (l:=[]) trivial)
 exact QV 240 16 (E:=λ_=>ZN P [] []) (args:=λc=>.cons (.int ze .u32 (zT c)) .nil) (res:=Xb) (λ_=>XK) (λ_=>rfl) 400 (Has.of hn Tryz.func166 rfl) lst_p15 (by omega) (by omega) (YJ hm hn (l:=[]) trivial)
theorem lst_meets(a:Int)(h:0<=a/\a<256):Zi P 166 (.cons (.int za .u32 a) .nil) (Xb a.toNat):=by
 obtain⟨c,rfl⟩:=Int.eq_ofNat_of_zero_le h.1
 refine Zi.args (lst_lit c (by omega)) λF w n m xs hx=>?_
 have e:=((Y0 (.cons (.int za .u32 (c:Int)) .nil) n m).2 xs).2 hx
 exact((Y0 (.cons (.int ze .u32 (zT c)) .nil) n m).2 xs).1 e
def c_lst:Con:=Yh 166 (λx=>.cons (.int za .u32 x.hd.toInt) .nil) (λx=>Xb x.hd.toInt.toNat) (λx=>0<=x.hd.toInt/\x.hd.toInt<256)
theorem c_lst_ok:c_lst.Ok P:=Yi λx h=>lst_meets _ h
end Go.Proofs.YthhbdbeglmkijaaGreatDoor
end
