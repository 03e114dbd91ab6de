/- cpuset.List of sets that may be: by their number. -/
import Derived.Test.YthhbdbeglmkijaaGreatDoorMAj
import Derived.Test.YthhbdbeglmkijaaGreatDoorMAg
set_option maxRecDepth 100000
set_option linter.unusedVariables false
set_option linter.unusedSimpArgs false
noncomputable section
open Int renaming ofNat→zT
open Bool renaming false→za,true→ze
namespace Go.Proofs.YthhbdbeglmkijaaGreatDoor
open Go.Fw
def Zbm(c:Nat):List Nat:=(List.range 8).filter λi=>Nat.testBit c i
def Xf(c:Nat):Nat:=(Zbm c).length
def Xb(c j:Nat):DT3:=⟨zT ((Zbm c).getD j 0)⟩
theorem lst_le(c:Nat):Xf c<=8:=by
 have:=List.length_filter_le (λi=>Nat.testBit c i) (List.range 8)
 rw[List.length_range]at this
 exact this
theorem lst_lt(c j:Nat):0<=(Xb c j).f0/\(Xb c j).f0<8:=by
 unfold Xb
 dsimp only
 refine⟨Int.natCast_nonneg _,?_⟩
 have h:(Zbm c).getD j 0<8:=by
  rw[List.getD_eq_getElem?_getD]
  cases e:(Zbm c)[j]? with
  |none=>decide
  |some x=>
   have hm:=List.mem_of_getElem? e
   unfold Zbm at hm
   exact List.mem_range.1 (List.mem_filter.1 hm).1
 have h2:((Zbm c).getD j 0:Int)<8:=by exact_mod_cast h
 exact h2
abbrev Y2(c:Nat):V:=.rsl za 1 (Xf c) λj=>ZK za (Xb c j)
abbrev Yr(c:Nat):Tree V:=Ya (ZM P [] []) (Yc []) 400 166 (.cons (.int ze .u32 (zT c)) .nil)
theorem lst_p0:(Xc 16 λc=>(Yr (0+c)).total&&((Yr (0+c)).YO&&YI (Yr (0+c)).join (Y2 (0+c))))=ze:=by kernel_rfl
theorem lst_p1:(Xc 16 λc=>(Yr (16+c)).total&&((Yr (16+c)).YO&&YI (Yr (16+c)).join (Y2 (16+c))))=ze:=by kernel_rfl
theorem lst_p2:(Xc 16 λc=>(Yr (32+c)).total&&((Yr (32+c)).YO&&YI (Yr (32+c)).join (Y2 (32+c))))=ze:=by kernel_rfl
theorem lst_p3:(Xc 16 λc=>(Yr (48+c)).total&&((Yr (48+c)).YO&&YI (Yr (48+c)).join (Y2 (48+c))))=ze:=by kernel_rfl
theorem lst_p4:(Xc 16 λc=>(Yr (64+c)).total&&((Yr (64+c)).YO&&YI (Yr (64+c)).join (Y2 (64+c))))=ze:=by kernel_rfl
theorem lst_p5:(Xc 16 λc=>(Yr (80+c)).total&&((Yr (80+c)).YO&&YI (Yr (80+c)).join (Y2 (80+c))))=ze:=by kernel_rfl
theorem lst_p6:(Xc 16 λc=>(Yr (96+c)).total&&((Yr (96+c)).YO&&YI (Yr (96+c)).join (Y2 (96+c))))=ze:=by kernel_rfl
theorem lst_p7:(Xc 16 λc=>(Yr (112+c)).total&&((Yr (112+c)).YO&&YI (Yr (112+c)).join (Y2 (112+c))))=ze:=by kernel_rfl
theorem lst_p8:(Xc 16 λc=>(Yr (128+c)).total&&((Yr (128+c)).YO&&YI (Yr (128+c)).join (Y2 (128+c))))=ze:=by kernel_rfl
theorem lst_p9:(Xc 16 λc=>(Yr (144+c)).total&&((Yr (144+c)).YO&&YI (Yr (144+c)).join (Y2 (144+c))))=ze:=by kernel_rfl
theorem lst_p10:(Xc 16 λc=>(Yr (160+c)).total&&((Yr (160+c)).YO&&YI (Yr (160+c)).join (Y2 (160+c))))=ze:=by kernel_rfl
theorem lst_p11:(Xc 16 λc=>(Yr (176+c)).total&&((Yr (176+c)).YO&&YI (Yr (176+c)).join (Y2 (176+c))))=ze:=by kernel_rfl
theorem lst_p12:(Xc 16 λc=>(Yr (192+c)).total&&((Yr (192+c)).YO&&YI (Yr (192+c)).join (Y2 (192+c))))=ze:=by kernel_rfl
theorem lst_p13:(Xc 16 λc=>(Yr (208+c)).total&&((Yr (208+c)).YO&&YI (Yr (208+c)).join (Y2 (208+c))))=ze:=by kernel_rfl
theorem lst_p14:(Xc 16 λc=>(Yr (224+c)).total&&((Yr (224+c)).YO&&YI (Yr (224+c)).join (Y2 (224+c))))=ze:=by kernel_rfl
theorem lst_p15:(Xc 16 λc=>(Yr (240+c)).total&&((Yr (240+c)).YO&&YI (Yr (240+c)).join (Y2 (240+c))))=ze:=by kernel_rfl
theorem lst_lit(c:Nat)(hc:c<256):Zh P 166 (.cons (.int ze .u32 (zT c)) .nil) (Y2 c):=by
 by_cases h0:c<16
 ·exact QE 0 16 (E:=λ_=>ZM P [] []) (args:=λc=>.cons (.int ze .u32 (zT c)) .nil) (res:=Y2) (λ_=>XB) (λ_=>rfl) 400 (Has.of hn Tryz.func166 rfl) lst_p0 (by omega) (by omega) (Yz hm hn (l:=[]) trivial)
 by_cases h1:c<32
 ·exact QE 16 16 (E:=λ_=>ZM P [] []) (args:=λc=>.cons (.int ze .u32 (zT c)) .nil) (res:=Y2) (λ_=>XB) (λ_=>rfl) 400 (Has.of hn Tryz.func166 rfl) lst_p1 (by omega) (by omega) (Yz hm hn (l:=[]) trivial)
 by_cases h2:c<48
 ·exact QE 32 16 (E:=λ_=>ZM P [] []) (args:=λc=>.cons (.int ze .u32 (zT c)) .nil) (res:=Y2) (λ_=>XB) (λ_=>rfl) 400 (Has.of hn Tryz.func166 rfl) lst_p2 (by omega) (by omega) (Yz hm hn (l:=[]) trivial)
 by_cases h3:c<64
 ·exact QE 48 16 (E:=λ_=>ZM P [] []) (args:=λc=>.cons (.int ze .u32 (zT c)) .nil) (res:=Y2) (λ_=>XB) (λ_=>rfl) 400 (Has.of hn Tryz.func166 rfl) lst_p3 (by omega) (by omega) (Yz hm hn (l:=[]) trivial)
 by_cases h4:c<80
 ·exact QE 64 16 (E:=λ_=>ZM P [] []) (args:=λc=>.cons (.int ze .u32 (zT c)) .nil) (res:=Y2) (λ_=>XB) (λ_=>rfl) 400 (Has.of hn Tryz.func166 rfl) lst_p4 (by omega) (by omega) (Yz hm hn (l:=[]) trivial)
 by_cases h5:c<96
 ·exact QE 80 16 (E:=λ_=>ZM P [] []) (args:=λc=>.cons (.int ze .u32 (zT c)) .nil) (res:=Y2) (λ_=>XB) (λ_=>rfl) 400 (Has.of hn Tryz.func166 rfl) lst_p5 (by omega) (by omega) (Yz hm hn (l:=[]) trivial)
 by_cases h6:c<112
 ·exact QE 96 16 (E:=λ_=>ZM P [] []) (args:=λc=>.cons (.int ze .u32 (zT c)) .nil) (res:=Y2) (λ_=>XB) (λ_=>rfl) 400 (Has.of hn Tryz.func166 rfl) lst_p6 (by omega) (by omega) (Yz hm hn (l:=[]) trivial)
 by_cases h7:c<128
 ·exact QE 112 16 (E:=λ_=>ZM P [] []) (args:=λc=>.cons (.int ze .u32 (zT c)) .nil) (res:=Y2) (λ_=>XB) (λ_=>rfl) 400 (Has.of hn Tryz.func166 rfl) lst_p7 (by omega) (by omega) (Yz hm hn (l:=[]) trivial)
 by_cases h8:c<144
 ·exact QE 128 16 (E:=λ_=>ZM P [] []) (args:=λc=>.cons (.int ze .u32 (zT c)) .nil) (res:=Y2) (λ_=>XB) (λ_=>rfl) 400 (Has.of hn Tryz.func166 rfl) lst_p8 (by omega) (by omega) (Yz hm hn (l:=[]) trivial)
 by_cases h9:c<160
 ·exact QE 144 16 (E:=λ_=>ZM P [] []) (args:=λc=>.cons (.int ze .u32 (zT c)) .nil) (res:=Y2) (λ_=>XB) (λ_=>rfl) 400 (Has.of hn Tryz.func166 rfl) lst_p9 (by omega) (by omega) (Yz hm hn (l:=[]) trivial)
 by_cases h10:c<176
 ·exact QE 160 16 (E:=λ_=>ZM P [] []) (args:=λc=>.cons (.int ze .u32 (zT c)) .nil) (res:=Y2) (λ_=>XB) (λ_=>rfl) 400 (Has.of hn Tryz.func166 rfl) lst_p10 (by omega) (by omega) (Yz hm hn (l:=[]) trivial)
 by_cases h11:c<192
 ·exact QE 176 16 (E:=λ_=>ZM P [] []) (args:=λc=>.cons (.int ze .u32 (zT c)) .nil) (res:=Y2) (λ_=>XB) (λ_=>rfl) 400 (Has.of hn Tryz.func166 rfl) lst_p11 (by omega) (by omega) (Yz hm hn (l:=[]) trivial)
 by_cases h12:c<208
 ·exact QE 192 16 (E:=λ_=>ZM P [] []) (args:=λc=>.cons (.int ze .u32 (zT c)) .nil) (res:=Y2) (λ_=>XB) (λ_=>rfl) 400 (Has.of hn Tryz.func166 rfl) lst_p12 (by omega) (by omega) (Yz hm hn (l:=[]) trivial)
 by_cases h13:c<224
 ·exact QE 208 16 (E:=λ_=>ZM P [] []) (args:=λc=>.cons (.int ze .u32 (zT c)) .nil) (res:=Y2) (λ_=>XB) (λ_=>rfl) 400 (Has.of hn Tryz.func166 rfl) lst_p13 (by omega) (by omega) (Yz hm hn (l:=[]) trivial)
 by_cases h14:c<240
 ·exact QE 224 16 (E:=λ_=>ZM P [] []) (args:=λc=>.cons (.int ze .u32 (zT c)) .nil) (res:=Y2) (λ_=>XB) (λ_=>rfl) 400 (Has.of hn Tryz.func166 rfl) lst_p14 (by omega) (by omega) (Yz hm hn (l:=[]) trivial)
 exact QE 240 16 (E:=λ_=>ZM P [] []) (args:=λc=>.cons (.int ze .u32 (zT c)) .nil) (res:=Y2) (λ_=>XB) (λ_=>rfl) 400 (Has.of hn Tryz.func166 rfl) lst_p15 (by omega) (by omega) (Yz hm hn (l:=[]) trivial)
theorem lst_meets(a:Int)(h:0<=a/\a<256):Zh P 166 (.cons (.int za .u32 a) .nil) (Y2 a.toNat):=by
 obtain⟨c,rfl⟩:=Int.eq_ofNat_of_zero_le h.1
 refine Zh.args (lst_lit c (by omega)) λF w n m xs hx=>?_
 have e:=((YM (.cons (.int za .u32 (c:Int)) .nil) n m).2 xs).2 hx
 exact((YM (.cons (.int ze .u32 (zT c)) .nil) n m).2 xs).1 e
def c_lst:Con:=Yd 166 (λx=>.cons (.int za .u32 x.hd.toInt) .nil) (λx=>Y2 x.hd.toInt.toNat) (λx=>0<=x.hd.toInt/\x.hd.toInt<256)
theorem c_lst_ok:c_lst.Ok P:=Yf λx h=>lst_meets _ h
end Go.Proofs.YthhbdbeglmkijaaGreatDoor
end
