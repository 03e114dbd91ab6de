/- gang.matching: its contract, of rows that are laid one by one. -/
import Derived.Test.YthhbdbeglmkijaaGreatDoorMAm
import Derived.Test.YthhbdbeglmkijaaGreatDoorMAn
import Derived.Test.YthhbdbeglmkijaaGreatDoorMAg
import Derived.Test.YthhbdbeglmkijaaGreatDoorMAk
import Derived.Test.YthhbdbeglmkijaaGreatDoorMAl
import Derived.Test.YthhbdbeglmkijaaGreatDoorMAf
set_option maxRecDepth 100000
set_option linter.unusedVariables false
set_option linter.unusedSimpArgs false
noncomputable section
open Bool renaming false→za,true→ze,not_eq_true'→yj,not_eq_false'→yu
open Go.IntKind renaming wrap→zy,u32→yC,bits→zR,i64→zq
open BitVec renaming toNat→yA,ofInt→zU
open Nat renaming beq→zo,eq_of_beq_eq_true→zP,zero_add→z8
open Option renaming some→zk,none→zm
open Go.Fw.V renaming rsl→zl,cons→zf,int→zn,nil→zh,bool→zC,mp→zZ,ptr→zV,agg→zH
open Go.Fw.Tree renaming leaf→zx,node→zD,need→zw
open True renaming intro→yc
open And renaming intro→zB
open Int renaming toNat→zi
open Go.Fw.Blk renaming var→zN
open Prod renaming fst→zL,snd→zu
namespace Go.Proofs.YthhbdbeglmkijaaGreatDoor
open Go.Fw
def rowOk(d:Zc):Prop:=d.n0<=1000/\∀k,k<d.n0->0<=(d.r0 k).f0/\(d.r0 k).f0<8
theorem V9(c:Nat):rowOk ⟨Xo c,λj=>Xh c j⟩:=⟨by show Xo c<=1000;have:=lst_le c;omega,λk _=>lst_lt c k⟩
theorem Vw{F:Nat->Prop}{w:World}{N:Nat}{m:Nat->Option Nat}{st:Bool}{es n:Nat}{g g':Nat->V}{xs:List Value}(h:∀j,j<n->(g j).soft=(g' j).soft)(hx:RL F w (.cons (.rsl st es n g) .nil) N m xs):RL F w (.cons (.rsl za es n g') .nil) N m xs:=by
 simp only[RL,R]at hx⊢
 obtain⟨x,r,rfl,⟨a,cap,rfl,hc,hr⟩,hn⟩:=hx
 refine⟨_,r,rfl,⟨a,cap,rfl,hc,?_⟩,hn⟩
 rcases hr with hr|⟨B,off,e1,e2,c,el,fr,k1,k2⟩
 ·exact .inl hr
 ·refine .inr ⟨B,off,e1,e2,c,el,fr,k1,λj hj=>?_⟩
  obtain⟨ys,hy,hl⟩:=k2 j hj
  have e:=((Y0 (g j) _ _).2 _).2 hy
  rw[h j hj]at e
  exact⟨ys,((Y0 (g' j) _ _).2 _).1 e,hl⟩
def XJ(LN:Int->Nat)(LI:Int->Nat->DT3):Con:=Yh 166 (λx=>.cons (.int za .u32 x.hd.toInt) .nil) (λx=>.rsl za 1 (LN x.hd.toInt) λj=>ZP za (LI x.hd.toInt j)) (λx=>0<=x.hd.toInt/\x.hd.toInt<256)
theorem VA:(XJ (λs=>Xo s.toNat) (λs=>Xh s.toNat)).Ok P:=c_lst_ok
theorem YI{s:Int}(h:0<=s/\s<4294967296)(hb:(bif zy yC ((yA (zU (zR yC) s&&& ~~~zU (zR yC) (255:Int)):Nat):Int) != (0:Int)then ze else za)=za):0<=s/\s<256:=by
 obtain⟨n,rfl⟩:=Int.eq_ofNat_of_zero_le h.1
 have hn:n<4294967296:=by omega
 have hb':=nf5 hb
 generalize hx:yA (zU (zR yC) (n:Int)&&& ~~~zU (zR yC) (255:Int))=x at hb'
 have hx2:x<4294967296:=by rw[<- hx];exact BitVec.isLt _
 rw[IntWalk.u32_in (x:Int) ⟨by omega,by omega⟩]at hb'
 have h0:x=0:=by omega
 rw[h0]at hx
 rw[BitVec.toNat_and]at hx
 have e1:(zU (zR yC) (n:Int)).toNat=n:=by
  show(zU 32 (n:Int)).toNat=n
  rw[BitVec.toNat_ofInt];omega
 have e2:(~~~zU (zR yC) (255:Int)).toNat=4294967040:=rfl
 rw[e1,e2]at hx
 have h1:=congrArg (·>>>8) hx
 simp only[Nat.shiftRight_and_distrib]at h1
 have e3:4294967040>>>8=2^24-1:=by decide
 rw[e3,Nat.and_two_pow_sub_one_eq_mod,Nat.shiftRight_eq_div_pow]at h1
 have e4:(0:Nat)>>>8=0:=by decide
 rw[e4]at h1
 have:n/2^8<2^24:=by omega
 rw[Nat.mod_eq_of_lt this]at h1
 refine⟨by omega,?_⟩
 have:n<256:=by
  have h3:=Nat.div_eq_zero_iff.1 h1
  omega
 omega
abbrev ZY(v:V):Zc:=⟨v.hd.Zy,λk=>⟨(v.hd.ZB k).hd.toInt⟩⟩
def Y5(v:V):Prop:=v.soft=Qz za (ZY v)/\rowOk (ZY v)
def c_gm1(GM:Zc->Bool):Con:={ g:=113,al:=ze,ans:=λx=>match x with
 | .cons (.rsl _ 1 n get) .nil=>bif zo n 1 then zk (.where_ (Y5 (get 0)) (.bool za (GM (ZY (get 0)))))else zm
 |_=>zm }
def row1(e0:Zc):Nat->Zc:=λj=>match j with
 |0=>e0
 |_=>e0
theorem c_gm1_ok:(c_gm1 λe0=>Xf 1 (row1 e0)).Ok P:=by
 intro x
 dsimp only[c_gm1]
 split
 ·rename_i v h
  split at h
  ·rename_i n get
   cases hb:zo n 1<;>rw[hb]at h<;>cases h
  ·cases h
 ·rename_i p v h
  split at h
  ·rename_i n get
   cases hb:zo n 1 with
   |false=>rw[hb]at h;cases h
   |true=>
    rw[hb]at h
    injection h with h
    injection h with h1 h2
    subst h1;subst h2
    obtain rfl:=zP hb
    intro hp
    refine Zi.args (Uu 1 (row1 (ZY (get 0))) (by omega) (λj hj=>?_)) λF w n' m xs hx=>Vw (λj hj=>?_) hx
    ·match j,hj with
     |0,_=>exact(hp).2
    ·match j,hj with
     |0,_=>exact(hp).1
  ·cases h
 ·rename_i h
  split at h
  ·rename_i n get
   cases hb:zo n 1<;>rw[hb]at h<;>cases h
  ·cases h
 ·trivial
def c_gm2(GM:Zc->Zc->Bool):Con:={ g:=113,al:=ze,ans:=λx=>match x with
 | .cons (.rsl _ 1 n get) .nil=>bif zo n 2 then zk (.where_ (Y5 (get 0)/\Y5 (get 1)) (.bool za (GM (ZY (get 0)) (ZY (get 1)))))else zm
 |_=>zm }
def J5(e0:Zc)(e1:Zc):Nat->Zc:=λj=>match j with
 |0=>e0
 |1=>e1
 |_=>e0
theorem c_gm2_ok:(c_gm2 λe0 e1=>Xf 2 (J5 e0 e1)).Ok P:=by
 intro x
 dsimp only[c_gm2]
 split
 ·rename_i v h
  split at h
  ·rename_i n get
   cases hb:zo n 2<;>rw[hb]at h<;>cases h
  ·cases h
 ·rename_i p v h
  split at h
  ·rename_i n get
   cases hb:zo n 2 with
   |false=>rw[hb]at h;cases h
   |true=>
    rw[hb]at h
    injection h with h
    injection h with h1 h2
    subst h1;subst h2
    obtain rfl:=zP hb
    intro hp
    refine Zi.args (Uu 2 (J5 (ZY (get 0)) (ZY (get 1))) (by omega) (λj hj=>?_)) λF w n' m xs hx=>Vw (λj hj=>?_) hx
    ·match j,hj with
     |0,_=>exact(hp.1).2
     |1,_=>exact(hp.2).2
    ·match j,hj with
     |0,_=>exact(hp.1).1
     |1,_=>exact(hp.2).1
  ·cases h
 ·rename_i h
  split at h
  ·rename_i n get
   cases hb:zo n 2<;>rw[hb]at h<;>cases h
  ·cases h
 ·trivial
def c_gm3(GM:Zc->Zc->Zc->Bool):Con:={ g:=113,al:=ze,ans:=λx=>match x with
 | .cons (.rsl _ 1 n get) .nil=>bif zo n 3 then zk (.where_ (Y5 (get 0)/\Y5 (get 1)/\Y5 (get 2)) (.bool za (GM (ZY (get 0)) (ZY (get 1)) (ZY (get 2)))))else zm
 |_=>zm }
def row3(e0:Zc)(e1:Zc)(e2:Zc):Nat->Zc:=λj=>match j with
 |0=>e0
 |1=>e1
 |2=>e2
 |_=>e0
theorem c_gm3_ok:(c_gm3 λe0 e1 e2=>Xf 3 (row3 e0 e1 e2)).Ok P:=by
 intro x
 dsimp only[c_gm3]
 split
 ·rename_i v h
  split at h
  ·rename_i n get
   cases hb:zo n 3<;>rw[hb]at h<;>cases h
  ·cases h
 ·rename_i p v h
  split at h
  ·rename_i n get
   cases hb:zo n 3 with
   |false=>rw[hb]at h;cases h
   |true=>
    rw[hb]at h
    injection h with h
    injection h with h1 h2
    subst h1;subst h2
    obtain rfl:=zP hb
    intro hp
    refine Zi.args (Uu 3 (row3 (ZY (get 0)) (ZY (get 1)) (ZY (get 2))) (by omega) (λj hj=>?_)) λF w n' m xs hx=>Vw (λj hj=>?_) hx
    ·match j,hj with
     |0,_=>exact(hp.1).2
     |1,_=>exact(hp.2.1).2
     |2,_=>exact(hp.2.2).2
    ·match j,hj with
     |0,_=>exact(hp.1).1
     |1,_=>exact(hp.2.1).1
     |2,_=>exact(hp.2.2).1
  ·cases h
 ·rename_i h
  split at h
  ·rename_i n get
   cases hb:zo n 3<;>rw[hb]at h<;>cases h
  ·cases h
 ·trivial
def c_gm4(GM:Zc->Zc->Zc->Zc->Bool):Con:={ g:=113,al:=ze,ans:=λx=>match x with
 | .cons (.rsl _ 1 n get) .nil=>bif zo n 4 then zk (.where_ (Y5 (get 0)/\Y5 (get 1)/\Y5 (get 2)/\Y5 (get 3)) (.bool za (GM (ZY (get 0)) (ZY (get 1)) (ZY (get 2)) (ZY (get 3)))))else zm
 |_=>zm }
def row4(e0:Zc)(e1:Zc)(e2:Zc)(e3:Zc):Nat->Zc:=λj=>match j with
 |0=>e0
 |1=>e1
 |2=>e2
 |3=>e3
 |_=>e0
theorem c_gm4_ok:(c_gm4 λe0 e1 e2 e3=>Xf 4 (row4 e0 e1 e2 e3)).Ok P:=by
 intro x
 dsimp only[c_gm4]
 split
 ·rename_i v h
  split at h
  ·rename_i n get
   cases hb:zo n 4<;>rw[hb]at h<;>cases h
  ·cases h
 ·rename_i p v h
  split at h
  ·rename_i n get
   cases hb:zo n 4 with
   |false=>rw[hb]at h;cases h
   |true=>
    rw[hb]at h
    injection h with h
    injection h with h1 h2
    subst h1;subst h2
    obtain rfl:=zP hb
    intro hp
    refine Zi.args (Uu 4 (row4 (ZY (get 0)) (ZY (get 1)) (ZY (get 2)) (ZY (get 3))) (by omega) (λj hj=>?_)) λF w n' m xs hx=>Vw (λj hj=>?_) hx
    ·match j,hj with
     |0,_=>exact(hp.1).2
     |1,_=>exact(hp.2.1).2
     |2,_=>exact(hp.2.2.1).2
     |3,_=>exact(hp.2.2.2).2
    ·match j,hj with
     |0,_=>exact(hp.1).1
     |1,_=>exact(hp.2.1).1
     |2,_=>exact(hp.2.2.1).1
     |3,_=>exact(hp.2.2.2).1
  ·cases h
 ·rename_i h
  split at h
  ·rename_i n get
   cases hb:zo n 4<;>rw[hb]at h<;>cases h
  ·cases h
 ·trivial
def c_gm5(GM:Zc->Zc->Zc->Zc->Zc->Bool):Con:={ g:=113,al:=ze,ans:=λx=>match x with
 | .cons (.rsl _ 1 n get) .nil=>bif zo n 5 then zk (.where_ (Y5 (get 0)/\Y5 (get 1)/\Y5 (get 2)/\Y5 (get 3)/\Y5 (get 4)) (.bool za (GM (ZY (get 0)) (ZY (get 1)) (ZY (get 2)) (ZY (get 3)) (ZY (get 4)))))else zm
 |_=>zm }
def row5(e0:Zc)(e1:Zc)(e2:Zc)(e3:Zc)(e4:Zc):Nat->Zc:=λj=>match j with
 |0=>e0
 |1=>e1
 |2=>e2
 |3=>e3
 |4=>e4
 |_=>e0
theorem c_gm5_ok:(c_gm5 λe0 e1 e2 e3 e4=>Xf 5 (row5 e0 e1 e2 e3 e4)).Ok P:=by
 intro x
 dsimp only[c_gm5]
 split
 ·rename_i v h
  split at h
  ·rename_i n get
   cases hb:zo n 5<;>rw[hb]at h<;>cases h
  ·cases h
 ·rename_i p v h
  split at h
  ·rename_i n get
   cases hb:zo n 5 with
   |false=>rw[hb]at h;cases h
   |true=>
    rw[hb]at h
    injection h with h
    injection h with h1 h2
    subst h1;subst h2
    obtain rfl:=zP hb
    intro hp
    refine Zi.args (Uu 5 (row5 (ZY (get 0)) (ZY (get 1)) (ZY (get 2)) (ZY (get 3)) (ZY (get 4))) (by omega) (λj hj=>?_)) λF w n' m xs hx=>Vw (λj hj=>?_) hx
    ·match j,hj with
     |0,_=>exact(hp.1).2
     |1,_=>exact(hp.2.1).2
     |2,_=>exact(hp.2.2.1).2
     |3,_=>exact(hp.2.2.2.1).2
     |4,_=>exact(hp.2.2.2.2).2
    ·match j,hj with
     |0,_=>exact(hp.1).1
     |1,_=>exact(hp.2.1).1
     |2,_=>exact(hp.2.2.1).1
     |3,_=>exact(hp.2.2.2.1).1
     |4,_=>exact(hp.2.2.2.2).1
  ·cases h
 ·rename_i h
  split at h
  ·rename_i n get
   cases hb:zo n 5<;>rw[hb]at h<;>cases h
  ·cases h
 ·trivial
def c_gm6(GM:Zc->Zc->Zc->Zc->Zc->Zc->Bool):Con:={ g:=113,al:=ze,ans:=λx=>match x with
 | .cons (.rsl _ 1 n get) .nil=>bif zo n 6 then zk (.where_ (Y5 (get 0)/\Y5 (get 1)/\Y5 (get 2)/\Y5 (get 3)/\Y5 (get 4)/\Y5 (get 5)) (.bool za (GM (ZY (get 0)) (ZY (get 1)) (ZY (get 2)) (ZY (get 3)) (ZY (get 4)) (ZY (get 5)))))else zm
 |_=>zm }
def row6(e0:Zc)(e1:Zc)(e2:Zc)(e3:Zc)(e4:Zc)(e5:Zc):Nat->Zc:=λj=>match j with
 |0=>e0
 |1=>e1
 |2=>e2
 |3=>e3
 |4=>e4
 |5=>e5
 |_=>e0
theorem c_gm6_ok:(c_gm6 λe0 e1 e2 e3 e4 e5=>Xf 6 (row6 e0 e1 e2 e3 e4 e5)).Ok P:=by
 intro x
 dsimp only[c_gm6]
 split
 ·rename_i v h
  split at h
  ·rename_i n get
   cases hb:zo n 6<;>rw[hb]at h<;>cases h
  ·cases h
 ·rename_i p v h
  split at h
  ·rename_i n get
   cases hb:zo n 6 with
   |false=>rw[hb]at h;cases h
   |true=>
    rw[hb]at h
    injection h with h
    injection h with h1 h2
    subst h1;subst h2
    obtain rfl:=zP hb
    intro hp
    refine Zi.args (Uu 6 (row6 (ZY (get 0)) (ZY (get 1)) (ZY (get 2)) (ZY (get 3)) (ZY (get 4)) (ZY (get 5))) (by omega) (λj hj=>?_)) λF w n' m xs hx=>Vw (λj hj=>?_) hx
    ·match j,hj with
     |0,_=>exact(hp.1).2
     |1,_=>exact(hp.2.1).2
     |2,_=>exact(hp.2.2.1).2
     |3,_=>exact(hp.2.2.2.1).2
     |4,_=>exact(hp.2.2.2.2.1).2
     |5,_=>exact(hp.2.2.2.2.2).2
    ·match j,hj with
     |0,_=>exact(hp.1).1
     |1,_=>exact(hp.2.1).1
     |2,_=>exact(hp.2.2.1).1
     |3,_=>exact(hp.2.2.2.1).1
     |4,_=>exact(hp.2.2.2.2.1).1
     |5,_=>exact(hp.2.2.2.2.2).1
  ·cases h
 ·rename_i h
  split at h
  ·rename_i n get
   cases hb:zo n 6<;>rw[hb]at h<;>cases h
  ·cases h
 ·trivial
def c_gm7(GM:Zc->Zc->Zc->Zc->Zc->Zc->Zc->Bool):Con:={ g:=113,al:=ze,ans:=λx=>match x with
 | .cons (.rsl _ 1 n get) .nil=>bif zo n 7 then zk (.where_ (Y5 (get 0)/\Y5 (get 1)/\Y5 (get 2)/\Y5 (get 3)/\Y5 (get 4)/\Y5 (get 5)/\Y5 (get 6)) (.bool za (GM (ZY (get 0)) (ZY (get 1)) (ZY (get 2)) (ZY (get 3)) (ZY (get 4)) (ZY (get 5)) (ZY (get 6)))))else zm
 |_=>zm }
def row7(e0:Zc)(e1:Zc)(e2:Zc)(e3:Zc)(e4:Zc)(e5:Zc)(e6:Zc):Nat->Zc:=λj=>match j with
 |0=>e0
 |1=>e1
 |2=>e2
 |3=>e3
 |4=>e4
 |5=>e5
 |6=>e6
 |_=>e0
theorem c_gm7_ok:(c_gm7 λe0 e1 e2 e3 e4 e5 e6=>Xf 7 (row7 e0 e1 e2 e3 e4 e5 e6)).Ok P:=by
 intro x
 dsimp only[c_gm7]
 split
 ·rename_i v h
  split at h
  ·rename_i n get
   cases hb:zo n 7<;>rw[hb]at h<;>cases h
  ·cases h
 ·rename_i p v h
  split at h
  ·rename_i n get
   cases hb:zo n 7 with
   |false=>rw[hb]at h;cases h
   |true=>
    rw[hb]at h
    injection h with h
    injection h with h1 h2
    subst h1;subst h2
    obtain rfl:=zP hb
    intro hp
    refine Zi.args (Uu 7 (row7 (ZY (get 0)) (ZY (get 1)) (ZY (get 2)) (ZY (get 3)) (ZY (get 4)) (ZY (get 5)) (ZY (get 6))) (by omega) (λj hj=>?_)) λF w n' m xs hx=>Vw (λj hj=>?_) hx
    ·match j,hj with
     |0,_=>exact(hp.1).2
     |1,_=>exact(hp.2.1).2
     |2,_=>exact(hp.2.2.1).2
     |3,_=>exact(hp.2.2.2.1).2
     |4,_=>exact(hp.2.2.2.2.1).2
     |5,_=>exact(hp.2.2.2.2.2.1).2
     |6,_=>exact(hp.2.2.2.2.2.2).2
    ·match j,hj with
     |0,_=>exact(hp.1).1
     |1,_=>exact(hp.2.1).1
     |2,_=>exact(hp.2.2.1).1
     |3,_=>exact(hp.2.2.2.1).1
     |4,_=>exact(hp.2.2.2.2.1).1
     |5,_=>exact(hp.2.2.2.2.2.1).1
     |6,_=>exact(hp.2.2.2.2.2.2).1
  ·cases h
 ·rename_i h
  split at h
  ·rename_i n get
   cases hb:zo n 7<;>rw[hb]at h<;>cases h
  ·cases h
 ·trivial
def c_gm8(GM:Zc->Zc->Zc->Zc->Zc->Zc->Zc->Zc->Bool):Con:={ g:=113,al:=ze,ans:=λx=>match x with
 | .cons (.rsl _ 1 n get) .nil=>bif zo n 8 then zk (.where_ (Y5 (get 0)/\Y5 (get 1)/\Y5 (get 2)/\Y5 (get 3)/\Y5 (get 4)/\Y5 (get 5)/\Y5 (get 6)/\Y5 (get 7)) (.bool za (GM (ZY (get 0)) (ZY (get 1)) (ZY (get 2)) (ZY (get 3)) (ZY (get 4)) (ZY (get 5)) (ZY (get 6)) (ZY (get 7)))))else zm
 |_=>zm }
def row8(e0:Zc)(e1:Zc)(e2:Zc)(e3:Zc)(e4:Zc)(e5:Zc)(e6:Zc)(e7:Zc):Nat->Zc:=λj=>match j with
 |0=>e0
 |1=>e1
 |2=>e2
 |3=>e3
 |4=>e4
 |5=>e5
 |6=>e6
 |7=>e7
 |_=>e0
theorem c_gm8_ok:(c_gm8 λe0 e1 e2 e3 e4 e5 e6 e7=>Xf 8 (row8 e0 e1 e2 e3 e4 e5 e6 e7)).Ok P:=by
 intro x
 dsimp only[c_gm8]
 split
 ·rename_i v h
  split at h
  ·rename_i n get
   cases hb:zo n 8<;>rw[hb]at h<;>cases h
  ·cases h
 ·rename_i p v h
  split at h
  ·rename_i n get
   cases hb:zo n 8 with
   |false=>rw[hb]at h;cases h
   |true=>
    rw[hb]at h
    injection h with h
    injection h with h1 h2
    subst h1;subst h2
    obtain rfl:=zP hb
    intro hp
    refine Zi.args (Uu 8 (row8 (ZY (get 0)) (ZY (get 1)) (ZY (get 2)) (ZY (get 3)) (ZY (get 4)) (ZY (get 5)) (ZY (get 6)) (ZY (get 7))) (by omega) (λj hj=>?_)) λF w n' m xs hx=>Vw (λj hj=>?_) hx
    ·match j,hj with
     |0,_=>exact(hp.1).2
     |1,_=>exact(hp.2.1).2
     |2,_=>exact(hp.2.2.1).2
     |3,_=>exact(hp.2.2.2.1).2
     |4,_=>exact(hp.2.2.2.2.1).2
     |5,_=>exact(hp.2.2.2.2.2.1).2
     |6,_=>exact(hp.2.2.2.2.2.2.1).2
     |7,_=>exact(hp.2.2.2.2.2.2.2).2
    ·match j,hj with
     |0,_=>exact(hp.1).1
     |1,_=>exact(hp.2.1).1
     |2,_=>exact(hp.2.2.1).1
     |3,_=>exact(hp.2.2.2.1).1
     |4,_=>exact(hp.2.2.2.2.1).1
     |5,_=>exact(hp.2.2.2.2.2.1).1
     |6,_=>exact(hp.2.2.2.2.2.2.1).1
     |7,_=>exact(hp.2.2.2.2.2.2.2).1
  ·cases h
 ·rename_i h
  split at h
  ·rename_i n get
   cases hb:zo n 8<;>rw[hb]at h<;>cases h
  ·cases h
 ·trivial
def Y2(x:Int):Bool:=bif zy yC ((yA (zU (zR yC) x&&& ~~~zU (zR yC) (255:Int)):Nat):Int) != (0:Int)then ze else za
def lsR(LN:Int->Nat)(LI:Int->Nat->DT3)(x:Int):Zc:=Zc.mk (LN x) λk=>DT3.mk (DT3.f0 (LI x k))
def lsV(LN:Int->Nat)(LI:Int->Nat->DT3)(x:Int):V:=zl za 1 (LN x) λj=>zf (zn za .i64 (DT3.f0 (LI x j))) zh
def may0_T(LN:Int->Nat)(LI:Int->Nat->DT3)(a:Nat->Zq):Tree V:=
 zx (zC ze ze)
theorem may0_tree(LN:Int->Nat)(LI:Int->Nat->DT3)(a:Nat->Zq):ZU (ZN P [XJ LN LI] [112,69]) 400 69 (.cons (.rsl ze 1 0 λj=>ZL ze (a j)) .nil)=may0_T LN LI a:=by kernel_rfl
def Zgq(LN:Int->Nat)(LI:Int->Nat->DT3)(a:Nat->Zq):Bool:=(may0_T LN LI a).join.toBool
theorem may0_gen(LN:Int->Nat)(LI:Int->Nat->DT3)(a:Nat->Zq)(hL:(XJ LN LI).Ok P)(hR:∀s,rowOk ⟨LN s,λk=>LI s k⟩)(hs:∀j,j<0->0<=(a j).f0/\(a j).f0<4294967296):Zi P 69 (.cons (.rsl ze 1 0 λj=>ZL ze (a j)) .nil) (.bool za (Zgq LN LI a)):=
 Xp (YJ hm hn (l:=[XJ LN LI]) ⟨hL,trivial⟩) 400 (Has.of hn Tryz.func69 rfl) (may0_tree LN LI a) (Tree.Pre.mk yc) (by kernel_rfl) (by kernel_rfl)
def may0(a:Nat->Zq):Bool:=Zgq (λs=>Xo s.toNat) (λs=>Xh s.toNat) a
theorem Zqs(a:Nat->Zq)(hs:∀j,j<0->0<=(a j).f0/\(a j).f0<4294967296):Zi P 69 (.cons (.rsl ze 1 0 λj=>ZL ze (a j)) .nil) (.bool za (may0 a)):=may0_gen (λs=>Xo s.toNat) (λs=>Xh s.toNat) a VA (λs=>V9 _) hs
def may1_T(LN:Int->Nat)(LI:Int->Nat->DT3)(GM:Zc->Bool)(a:Nat->Zq):Tree V:=
 zD (Y2 (a 0).f0) (zx (zC ze za)) (zw (zf (zn za .u32 (a 0).f0) zh=zf (zn za .u32 (a 0).f0) zh/\(0:Int)<=(a (0)).f0/\(a (0)).f0<(256:Int)) (zw (zf (lsV LN LI (a 0).f0) zh=zf (lsV LN LI (a 0).f0) zh/\rowOk (lsR LN LI (a 0).f0)) (zx (zC za (GM (lsR LN LI (a 0).f0))))))
theorem may1_tree(LN:Int->Nat)(LI:Int->Nat->DT3)(GM:Zc->Bool)(a:Nat->Zq):ZU (ZN P [XJ LN LI,c_gm1 GM] [112,69]) 400 69 (.cons (.rsl ze 1 1 λj=>ZL ze (a j)) .nil)=may1_T LN LI GM a:=by kernel_rfl
def Zgr(LN:Int->Nat)(LI:Int->Nat->DT3)(GM:Zc->Bool)(a:Nat->Zq):Bool:=(may1_T LN LI GM a).join.toBool
theorem may1_gen(LN:Int->Nat)(LI:Int->Nat->DT3)(GM:Zc->Bool)(a:Nat->Zq)(hL:(XJ LN LI).Ok P)(hG:(c_gm1 GM).Ok P)(hR:∀s,rowOk ⟨LN s,λk=>LI s k⟩)(hs:∀j,j<1->0<=(a j).f0/\(a j).f0<4294967296):Zi P 69 (.cons (.rsl ze 1 1 λj=>ZL ze (a j)) .nil) (.bool za (Zgr LN LI GM a)):=
 Xp (YJ hm hn (l:=[XJ LN LI,c_gm1 GM]) ⟨hL,hG,trivial⟩) 400 (Has.of hn Tryz.func69 rfl) (may1_tree LN LI GM a) (Tree.Pre.mk (zB (λ_=>yc) (λhb0=>(zB (by first|exact⟨rfl,YI (hs 0 (by omega)) hb0⟩|exact⟨rfl,hR _⟩) (zB (by first|exact⟨rfl,YI (hs 0 (by omega)) hb0⟩|exact⟨rfl,hR _⟩) yc))))) (by kernel_rfl) (by kernel_rfl)
def may1(a:Nat->Zq):Bool:=Zgr (λs=>Xo s.toNat) (λs=>Xh s.toNat) (λe0=>Xf 1 (row1 e0)) a
theorem Zqt(a:Nat->Zq)(hs:∀j,j<1->0<=(a j).f0/\(a j).f0<4294967296):Zi P 69 (.cons (.rsl ze 1 1 λj=>ZL ze (a j)) .nil) (.bool za (may1 a)):=may1_gen (λs=>Xo s.toNat) (λs=>Xh s.toNat) (λe0=>Xf 1 (row1 e0)) a VA c_gm1_ok (λs=>V9 _) hs
def may2_T(LN:Int->Nat)(LI:Int->Nat->DT3)(GM:Zc->Zc->Bool)(a:Nat->Zq):Tree V:=
 zD (Y2 (a 0).f0) (zx (zC ze za)) (zw (zf (zn za .u32 (a 0).f0) zh=zf (zn za .u32 (a 0).f0) zh/\(0:Int)<=(a (0)).f0/\(a (0)).f0<(256:Int)) (zD (Y2 (a 1).f0) (zx (zC ze za)) (zw (zf (zn za .u32 (a 1).f0) zh=zf (zn za .u32 (a 1).f0) zh/\(0:Int)<=(a (0+(1:Nat))).f0/\(a (0+(1:Nat))).f0<(256:Int)) (zw ((zf (lsV LN LI (a 0).f0) zh=zf (lsV LN LI (a 0).f0) zh/\rowOk (lsR LN LI (a 0).f0))/\zf (lsV LN LI (a 1).f0) zh=zf (lsV LN LI (a 1).f0) zh/\rowOk (lsR LN LI (a 1).f0)) (zx (zC za (GM (lsR LN LI (a 0).f0) (lsR LN LI (a 1).f0))))))))
theorem may2_tree(LN:Int->Nat)(LI:Int->Nat->DT3)(GM:Zc->Zc->Bool)(a:Nat->Zq):ZU (ZN P [XJ LN LI,c_gm2 GM] [112,69]) 400 69 (.cons (.rsl ze 1 2 λj=>ZL ze (a j)) .nil)=may2_T LN LI GM a:=by kernel_rfl
def Zgs(LN:Int->Nat)(LI:Int->Nat->DT3)(GM:Zc->Zc->Bool)(a:Nat->Zq):Bool:=(may2_T LN LI GM a).join.toBool
theorem may2_gen(LN:Int->Nat)(LI:Int->Nat->DT3)(GM:Zc->Zc->Bool)(a:Nat->Zq)(hL:(XJ LN LI).Ok P)(hG:(c_gm2 GM).Ok P)(hR:∀s,rowOk ⟨LN s,λk=>LI s k⟩)(hs:∀j,j<2->0<=(a j).f0/\(a j).f0<4294967296):Zi P 69 (.cons (.rsl ze 1 2 λj=>ZL ze (a j)) .nil) (.bool za (Zgs LN LI GM a)):=
 Xp (YJ hm hn (l:=[XJ LN LI,c_gm2 GM]) ⟨hL,hG,trivial⟩) 400 (Has.of hn Tryz.func69 rfl) (may2_tree LN LI GM a) (Tree.Pre.mk (zB (λ_=>yc) (λhb0=>(zB (by first|exact⟨rfl,YI (hs 0 (by omega)) hb0⟩|exact⟨⟨rfl,hR _⟩,⟨rfl,hR _⟩⟩) (zB (λ_=>yc) (λhb1=>(zB (by first|exact⟨rfl,YI (hs 1 (by omega)) hb1⟩|exact⟨⟨rfl,hR _⟩,⟨rfl,hR _⟩⟩) (zB (by first|exact⟨rfl,YI (hs 1 (by omega)) hb1⟩|exact⟨⟨rfl,hR _⟩,⟨rfl,hR _⟩⟩) yc)))))))) (by kernel_rfl) (by kernel_rfl)
def may2(a:Nat->Zq):Bool:=Zgs (λs=>Xo s.toNat) (λs=>Xh s.toNat) (λe0 e1=>Xf 2 (J5 e0 e1)) a
theorem Zqu(a:Nat->Zq)(hs:∀j,j<2->0<=(a j).f0/\(a j).f0<4294967296):Zi P 69 (.cons (.rsl ze 1 2 λj=>ZL ze (a j)) .nil) (.bool za (may2 a)):=may2_gen (λs=>Xo s.toNat) (λs=>Xh s.toNat) (λe0 e1=>Xf 2 (J5 e0 e1)) a VA c_gm2_ok (λs=>V9 _) hs
def may3_T(LN:Int->Nat)(LI:Int->Nat->DT3)(GM:Zc->Zc->Zc->Bool)(a:Nat->Zq):Tree V:=
 let q0:=(zx (zC ze za))
 zD (Y2 (a 0).f0) q0 (zw (zf (zn za .u32 (a 0).f0) zh=zf (zn za .u32 (a 0).f0) zh/\(0:Int)<=(a (0)).f0/\(a (0)).f0<(256:Int)) (zD (Y2 (a 1).f0) q0 (zw (zf (zn za .u32 (a 1).f0) zh=zf (zn za .u32 (a 1).f0) zh/\(0:Int)<=(a (0+(1:Nat))).f0/\(a (0+(1:Nat))).f0<(256:Int)) (zD (Y2 (a 2).f0) q0 (zw (zf (zn za .u32 (a 2).f0) zh=zf (zn za .u32 (a 2).f0) zh/\(0:Int)<=(a (1+(1:Nat))).f0/\(a (1+(1:Nat))).f0<(256:Int)) (zw ((zf (lsV LN LI (a 0).f0) zh=zf (lsV LN LI (a 0).f0) zh/\rowOk (lsR LN LI (a 0).f0))/\(zf (lsV LN LI (a 1).f0) zh=zf (lsV LN LI (a 1).f0) zh/\rowOk (lsR LN LI (a 1).f0))/\zf (lsV LN LI (a 2).f0) zh=zf (lsV LN LI (a 2).f0) zh/\rowOk (lsR LN LI (a 2).f0)) (zx (zC za (GM (lsR LN LI (a 0).f0) (lsR LN LI (a 1).f0) (lsR LN LI (a 2).f0))))))))))
theorem may3_tree(LN:Int->Nat)(LI:Int->Nat->DT3)(GM:Zc->Zc->Zc->Bool)(a:Nat->Zq):ZU (ZN P [XJ LN LI,c_gm3 GM] [112,69]) 400 69 (.cons (.rsl ze 1 3 λj=>ZL ze (a j)) .nil)=may3_T LN LI GM a:=by kernel_rfl
def Zgt(LN:Int->Nat)(LI:Int->Nat->DT3)(GM:Zc->Zc->Zc->Bool)(a:Nat->Zq):Bool:=(may3_T LN LI GM a).join.toBool
theorem may3_gen(LN:Int->Nat)(LI:Int->Nat->DT3)(GM:Zc->Zc->Zc->Bool)(a:Nat->Zq)(hL:(XJ LN LI).Ok P)(hG:(c_gm3 GM).Ok P)(hR:∀s,rowOk ⟨LN s,λk=>LI s k⟩)(hs:∀j,j<3->0<=(a j).f0/\(a j).f0<4294967296):Zi P 69 (.cons (.rsl ze 1 3 λj=>ZL ze (a j)) .nil) (.bool za (Zgt LN LI GM a)):=
 Xp (YJ hm hn (l:=[XJ LN LI,c_gm3 GM]) ⟨hL,hG,trivial⟩) 400 (Has.of hn Tryz.func69 rfl) (may3_tree LN LI GM a) (Tree.Pre.mk (zB (λ_=>yc) (λhb0=>(zB (by first|exact⟨rfl,YI (hs 0 (by omega)) hb0⟩|exact⟨⟨rfl,hR _⟩,⟨rfl,hR _⟩,⟨rfl,hR _⟩⟩) (zB (λ_=>yc) (λhb1=>(zB (by first|exact⟨rfl,YI (hs 1 (by omega)) hb1⟩|exact⟨⟨rfl,hR _⟩,⟨rfl,hR _⟩,⟨rfl,hR _⟩⟩) (zB (λ_=>yc) (λhb2=>(zB (by first|exact⟨rfl,YI (hs 2 (by omega)) hb2⟩|exact⟨⟨rfl,hR _⟩,⟨rfl,hR _⟩,⟨rfl,hR _⟩⟩) (zB (by first|exact⟨rfl,YI (hs 2 (by omega)) hb2⟩|exact⟨⟨rfl,hR _⟩,⟨rfl,hR _⟩,⟨rfl,hR _⟩⟩) yc))))))))))) (by kernel_rfl) (by kernel_rfl)
def may3(a:Nat->Zq):Bool:=Zgt (λs=>Xo s.toNat) (λs=>Xh s.toNat) (λe0 e1 e2=>Xf 3 (row3 e0 e1 e2)) a
theorem Zqv(a:Nat->Zq)(hs:∀j,j<3->0<=(a j).f0/\(a j).f0<4294967296):Zi P 69 (.cons (.rsl ze 1 3 λj=>ZL ze (a j)) .nil) (.bool za (may3 a)):=may3_gen (λs=>Xo s.toNat) (λs=>Xh s.toNat) (λe0 e1 e2=>Xf 3 (row3 e0 e1 e2)) a VA c_gm3_ok (λs=>V9 _) hs
def may4_T(LN:Int->Nat)(LI:Int->Nat->DT3)(GM:Zc->Zc->Zc->Zc->Bool)(a:Nat->Zq):Tree V:=
 let q0:=(zx (zC ze za))
 zD (Y2 (a 0).f0) q0 (zw (zf (zn za .u32 (a 0).f0) zh=zf (zn za .u32 (a 0).f0) zh/\(0:Int)<=(a (0)).f0/\(a (0)).f0<(256:Int)) (zD (Y2 (a 1).f0) q0 (zw (zf (zn za .u32 (a 1).f0) zh=zf (zn za .u32 (a 1).f0) zh/\(0:Int)<=(a (0+(1:Nat))).f0/\(a (0+(1:Nat))).f0<(256:Int)) (zD (Y2 (a 2).f0) q0 (zw (zf (zn za .u32 (a 2).f0) zh=zf (zn za .u32 (a 2).f0) zh/\(0:Int)<=(a (1+(1:Nat))).f0/\(a (1+(1:Nat))).f0<(256:Int)) (zD (Y2 (a 3).f0) q0 (zw (zf (zn za .u32 (a 3).f0) zh=zf (zn za .u32 (a 3).f0) zh/\(0:Int)<=(a (2+(1:Nat))).f0/\(a (2+(1:Nat))).f0<(256:Int)) (zw ((zf (lsV LN LI (a 0).f0) zh=zf (lsV LN LI (a 0).f0) zh/\rowOk (lsR LN LI (a 0).f0))/\(zf (lsV LN LI (a 1).f0) zh=zf (lsV LN LI (a 1).f0) zh/\rowOk (lsR LN LI (a 1).f0))/\(zf (lsV LN LI (a 2).f0) zh=zf (lsV LN LI (a 2).f0) zh/\rowOk (lsR LN LI (a 2).f0))/\zf (lsV LN LI (a 3).f0) zh=zf (lsV LN LI (a 3).f0) zh/\rowOk (lsR LN LI (a 3).f0)) (zx (zC za (GM (lsR LN LI (a 0).f0) (lsR LN LI (a 1).f0) (lsR LN LI (a 2).f0) (lsR LN LI (a 3).f0))))))))))))
theorem may4_tree(LN:Int->Nat)(LI:Int->Nat->DT3)(GM:Zc->Zc->Zc->Zc->Bool)(a:Nat->Zq):ZU (ZN P [XJ LN LI,c_gm4 GM] [112,69]) 400 69 (.cons (.rsl ze 1 4 λj=>ZL ze (a j)) .nil)=may4_T LN LI GM a:=by kernel_rfl
def Zgu(LN:Int->Nat)(LI:Int->Nat->DT3)(GM:Zc->Zc->Zc->Zc->Bool)(a:Nat->Zq):Bool:=(may4_T LN LI GM a).join.toBool
theorem may4_gen(LN:Int->Nat)(LI:Int->Nat->DT3)(GM:Zc->Zc->Zc->Zc->Bool)(a:Nat->Zq)(hL:(XJ LN LI).Ok P)(hG:(c_gm4 GM).Ok P)(hR:∀s,rowOk ⟨LN s,λk=>LI s k⟩)(hs:∀j,j<4->0<=(a j).f0/\(a j).f0<4294967296):Zi P 69 (.cons (.rsl ze 1 4 λj=>ZL ze (a j)) .nil) (.bool za (Zgu LN LI GM a)):=
 Xp (YJ hm hn (l:=[XJ LN LI,c_gm4 GM]) ⟨hL,hG,trivial⟩) 400 (Has.of hn Tryz.func69 rfl) (may4_tree LN LI GM a) (Tree.Pre.mk (zB (λ_=>yc) (λhb0=>(zB (by first|exact⟨rfl,YI (hs 0 (by omega)) hb0⟩|exact⟨⟨rfl,hR _⟩,⟨rfl,hR _⟩,⟨rfl,hR _⟩,⟨rfl,hR _⟩⟩) (zB (λ_=>yc) (λhb1=>(zB (by first|exact⟨rfl,YI (hs 1 (by omega)) hb1⟩|exact⟨⟨rfl,hR _⟩,⟨rfl,hR _⟩,⟨rfl,hR _⟩,⟨rfl,hR _⟩⟩) (zB (λ_=>yc) (λhb2=>(zB (by first|exact⟨rfl,YI (hs 2 (by omega)) hb2⟩|exact⟨⟨rfl,hR _⟩,⟨rfl,hR _⟩,⟨rfl,hR _⟩,⟨rfl,hR _⟩⟩) (zB (λ_=>yc) (λhb3=>(zB (by first|exact⟨rfl,YI (hs 3 (by omega)) hb3⟩|exact⟨⟨rfl,hR _⟩,⟨rfl,hR _⟩,⟨rfl,hR _⟩,⟨rfl,hR _⟩⟩) (zB (by first|exact⟨rfl,YI (hs 3 (by omega)) hb3⟩|exact⟨⟨rfl,hR _⟩,⟨rfl,hR _⟩,⟨rfl,hR _⟩,⟨rfl,hR _⟩⟩) yc)))))))))))))) (by kernel_rfl) (by kernel_rfl)
def may4(a:Nat->Zq):Bool:=Zgu (λs=>Xo s.toNat) (λs=>Xh s.toNat) (λe0 e1 e2 e3=>Xf 4 (row4 e0 e1 e2 e3)) a
theorem Zqw(a:Nat->Zq)(hs:∀j,j<4->0<=(a j).f0/\(a j).f0<4294967296):Zi P 69 (.cons (.rsl ze 1 4 λj=>ZL ze (a j)) .nil) (.bool za (may4 a)):=may4_gen (λs=>Xo s.toNat) (λs=>Xh s.toNat) (λe0 e1 e2 e3=>Xf 4 (row4 e0 e1 e2 e3)) a VA c_gm4_ok (λs=>V9 _) hs
def may5_T(LN:Int->Nat)(LI:Int->Nat->DT3)(GM:Zc->Zc->Zc->Zc->Zc->Bool)(a:Nat->Zq):Tree V:=
 let q0:=(zx (zC ze za))
 zD (Y2 (a 0).f0) q0 (zw (zf (zn za .u32 (a 0).f0) zh=zf (zn za .u32 (a 0).f0) zh/\(0:Int)<=(a (0)).f0/\(a (0)).f0<(256:Int)) (zD (Y2 (a 1).f0) q0 (zw (zf (zn za .u32 (a 1).f0) zh=zf (zn za .u32 (a 1).f0) zh/\(0:Int)<=(a (0+(1:Nat))).f0/\(a (0+(1:Nat))).f0<(256:Int)) (zD (Y2 (a 2).f0) q0 (zw (zf (zn za .u32 (a 2).f0) zh=zf (zn za .u32 (a 2).f0) zh/\(0:Int)<=(a (1+(1:Nat))).f0/\(a (1+(1:Nat))).f0<(256:Int)) (zD (Y2 (a 3).f0) q0 (zw (zf (zn za .u32 (a 3).f0) zh=zf (zn za .u32 (a 3).f0) zh/\(0:Int)<=(a (2+(1:Nat))).f0/\(a (2+(1:Nat))).f0<(256:Int)) (zD (Y2 (a 4).f0) q0 (zw (zf (zn za .u32 (a 4).f0) zh=zf (zn za .u32 (a 4).f0) zh/\(0:Int)<=(a (3+(1:Nat))).f0/\(a (3+(1:Nat))).f0<(256:Int)) (zw ((zf (lsV LN LI (a 0).f0) zh=zf (lsV LN LI (a 0).f0) zh/\rowOk (lsR LN LI (a 0).f0))/\(zf (lsV LN LI (a 1).f0) zh=zf (lsV LN LI (a 1).f0) zh/\rowOk (lsR LN LI (a 1).f0))/\(zf (lsV LN LI (a 2).f0) zh=zf (lsV LN LI (a 2).f0) zh/\rowOk (lsR LN LI (a 2).f0))/\(zf (lsV LN LI (a 3).f0) zh=zf (lsV LN LI (a 3).f0) zh/\rowOk (lsR LN LI (a 3).f0))/\zf (lsV LN LI (a 4).f0) zh=zf (lsV LN LI (a 4).f0) zh/\rowOk (lsR LN LI (a 4).f0)) (zx (zC za (GM (lsR LN LI (a 0).f0) (lsR LN LI (a 1).f0) (lsR LN LI (a 2).f0) (lsR LN LI (a 3).f0) (lsR LN LI (a 4).f0))))))))))))))
theorem may5_tree(LN:Int->Nat)(LI:Int->Nat->DT3)(GM:Zc->Zc->Zc->Zc->Zc->Bool)(a:Nat->Zq):ZU (ZN P [XJ LN LI,c_gm5 GM] [112,69]) 400 69 (.cons (.rsl ze 1 5 λj=>ZL ze (a j)) .nil)=may5_T LN LI GM a:=by kernel_rfl
def Zgv(LN:Int->Nat)(LI:Int->Nat->DT3)(GM:Zc->Zc->Zc->Zc->Zc->Bool)(a:Nat->Zq):Bool:=(may5_T LN LI GM a).join.toBool
theorem may5_gen(LN:Int->Nat)(LI:Int->Nat->DT3)(GM:Zc->Zc->Zc->Zc->Zc->Bool)(a:Nat->Zq)(hL:(XJ LN LI).Ok P)(hG:(c_gm5 GM).Ok P)(hR:∀s,rowOk ⟨LN s,λk=>LI s k⟩)(hs:∀j,j<5->0<=(a j).f0/\(a j).f0<4294967296):Zi P 69 (.cons (.rsl ze 1 5 λj=>ZL ze (a j)) .nil) (.bool za (Zgv LN LI GM a)):=
 Xp (YJ hm hn (l:=[XJ LN LI,c_gm5 GM]) ⟨hL,hG,trivial⟩) 400 (Has.of hn Tryz.func69 rfl) (may5_tree LN LI GM a) (Tree.Pre.mk (zB (λ_=>yc) (λhb0=>(zB (by first|exact⟨rfl,YI (hs 0 (by omega)) hb0⟩|exact⟨⟨rfl,hR _⟩,⟨rfl,hR _⟩,⟨rfl,hR _⟩,⟨rfl,hR _⟩,⟨rfl,hR _⟩⟩) (zB (λ_=>yc) (λhb1=>(zB (by first|exact⟨rfl,YI (hs 1 (by omega)) hb1⟩|exact⟨⟨rfl,hR _⟩,⟨rfl,hR _⟩,⟨rfl,hR _⟩,⟨rfl,hR _⟩,⟨rfl,hR _⟩⟩) (zB (λ_=>yc) (λhb2=>(zB (by first|exact⟨rfl,YI (hs 2 (by omega)) hb2⟩|exact⟨⟨rfl,hR _⟩,⟨rfl,hR _⟩,⟨rfl,hR _⟩,⟨rfl,hR _⟩,⟨rfl,hR _⟩⟩) (zB (λ_=>yc) (λhb3=>(zB (by first|exact⟨rfl,YI (hs 3 (by omega)) hb3⟩|exact⟨⟨rfl,hR _⟩,⟨rfl,hR _⟩,⟨rfl,hR _⟩,⟨rfl,hR _⟩,⟨rfl,hR _⟩⟩) (zB (λ_=>yc) (λhb4=>(zB (by first|exact⟨rfl,YI (hs 4 (by omega)) hb4⟩|exact⟨⟨rfl,hR _⟩,⟨rfl,hR _⟩,⟨rfl,hR _⟩,⟨rfl,hR _⟩,⟨rfl,hR _⟩⟩) (zB (by first|exact⟨rfl,YI (hs 4 (by omega)) hb4⟩|exact⟨⟨rfl,hR _⟩,⟨rfl,hR _⟩,⟨rfl,hR _⟩,⟨rfl,hR _⟩,⟨rfl,hR _⟩⟩) yc))))))))))))))))) (by kernel_rfl) (by kernel_rfl)
def may5(a:Nat->Zq):Bool:=Zgv (λs=>Xo s.toNat) (λs=>Xh s.toNat) (λe0 e1 e2 e3 e4=>Xf 5 (row5 e0 e1 e2 e3 e4)) a
theorem Zqx(a:Nat->Zq)(hs:∀j,j<5->0<=(a j).f0/\(a j).f0<4294967296):Zi P 69 (.cons (.rsl ze 1 5 λj=>ZL ze (a j)) .nil) (.bool za (may5 a)):=may5_gen (λs=>Xo s.toNat) (λs=>Xh s.toNat) (λe0 e1 e2 e3 e4=>Xf 5 (row5 e0 e1 e2 e3 e4)) a VA c_gm5_ok (λs=>V9 _) hs
def may6_T(LN:Int->Nat)(LI:Int->Nat->DT3)(GM:Zc->Zc->Zc->Zc->Zc->Zc->Bool)(a:Nat->Zq):Tree V:=
 let q0:=(zx (zC ze za))
 zD (Y2 (a 0).f0) q0 (zw (zf (zn za .u32 (a 0).f0) zh=zf (zn za .u32 (a 0).f0) zh/\(0:Int)<=(a (0)).f0/\(a (0)).f0<(256:Int)) (zD (Y2 (a 1).f0) q0 (zw (zf (zn za .u32 (a 1).f0) zh=zf (zn za .u32 (a 1).f0) zh/\(0:Int)<=(a (0+(1:Nat))).f0/\(a (0+(1:Nat))).f0<(256:Int)) (zD (Y2 (a 2).f0) q0 (zw (zf (zn za .u32 (a 2).f0) zh=zf (zn za .u32 (a 2).f0) zh/\(0:Int)<=(a (1+(1:Nat))).f0/\(a (1+(1:Nat))).f0<(256:Int)) (zD (Y2 (a 3).f0) q0 (zw (zf (zn za .u32 (a 3).f0) zh=zf (zn za .u32 (a 3).f0) zh/\(0:Int)<=(a (2+(1:Nat))).f0/\(a (2+(1:Nat))).f0<(256:Int)) (zD (Y2 (a 4).f0) q0 (zw (zf (zn za .u32 (a 4).f0) zh=zf (zn za .u32 (a 4).f0) zh/\(0:Int)<=(a (3+(1:Nat))).f0/\(a (3+(1:Nat))).f0<(256:Int)) (zD (Y2 (a 5).f0) q0 (zw (zf (zn za .u32 (a 5).f0) zh=zf (zn za .u32 (a 5).f0) zh/\(0:Int)<=(a (4+(1:Nat))).f0/\(a (4+(1:Nat))).f0<(256:Int)) (zw ((zf (lsV LN LI (a 0).f0) zh=zf (lsV LN LI (a 0).f0) zh/\rowOk (lsR LN LI (a 0).f0))/\(zf (lsV LN LI (a 1).f0) zh=zf (lsV LN LI (a 1).f0) zh/\rowOk (lsR LN LI (a 1).f0))/\(zf (lsV LN LI (a 2).f0) zh=zf (lsV LN LI (a 2).f0) zh/\rowOk (lsR LN LI (a 2).f0))/\(zf (lsV LN LI (a 3).f0) zh=zf (lsV LN LI (a 3).f0) zh/\rowOk (lsR LN LI (a 3).f0))/\(zf (lsV LN LI (a 4).f0) zh=zf (lsV LN LI (a 4).f0) zh/\rowOk (lsR LN LI (a 4).f0))/\zf (lsV LN LI (a 5).f0) zh=zf (lsV LN LI (a 5).f0) zh/\rowOk (lsR LN LI (a 5).f0)) (zx (zC za (GM (lsR LN LI (a 0).f0) (lsR LN LI (a 1).f0) (lsR LN LI (a 2).f0) (lsR LN LI (a 3).f0) (lsR LN LI (a 4).f0) (lsR LN LI (a 5).f0))))))))))))))))
theorem may6_tree(LN:Int->Nat)(LI:Int->Nat->DT3)(GM:Zc->Zc->Zc->Zc->Zc->Zc->Bool)(a:Nat->Zq):ZU (ZN P [XJ LN LI,c_gm6 GM] [112,69]) 400 69 (.cons (.rsl ze 1 6 λj=>ZL ze (a j)) .nil)=may6_T LN LI GM a:=by kernel_rfl
def Zgw(LN:Int->Nat)(LI:Int->Nat->DT3)(GM:Zc->Zc->Zc->Zc->Zc->Zc->Bool)(a:Nat->Zq):Bool:=(may6_T LN LI GM a).join.toBool
theorem may6_gen(LN:Int->Nat)(LI:Int->Nat->DT3)(GM:Zc->Zc->Zc->Zc->Zc->Zc->Bool)(a:Nat->Zq)(hL:(XJ LN LI).Ok P)(hG:(c_gm6 GM).Ok P)(hR:∀s,rowOk ⟨LN s,λk=>LI s k⟩)(hs:∀j,j<6->0<=(a j).f0/\(a j).f0<4294967296):Zi P 69 (.cons (.rsl ze 1 6 λj=>ZL ze (a j)) .nil) (.bool za (Zgw LN LI GM a)):=
 Xp (YJ hm hn (l:=[XJ LN LI,c_gm6 GM]) ⟨hL,hG,trivial⟩) 400 (Has.of hn Tryz.func69 rfl) (may6_tree LN LI GM a) (Tree.Pre.mk (zB (λ_=>yc) (λhb0=>(zB (by first|exact⟨rfl,YI (hs 0 (by omega)) hb0⟩|exact⟨⟨rfl,hR _⟩,⟨rfl,hR _⟩,⟨rfl,hR _⟩,⟨rfl,hR _⟩,⟨rfl,hR _⟩,⟨rfl,hR _⟩⟩) (zB (λ_=>yc) (λhb1=>(zB (by first|exact⟨rfl,YI (hs 1 (by omega)) hb1⟩|exact⟨⟨rfl,hR _⟩,⟨rfl,hR _⟩,⟨rfl,hR _⟩,⟨rfl,hR _⟩,⟨rfl,hR _⟩,⟨rfl,hR _⟩⟩) (zB (λ_=>yc) (λhb2=>(zB (by first|exact⟨rfl,YI (hs 2 (by omega)) hb2⟩|exact⟨⟨rfl,hR _⟩,⟨rfl,hR _⟩,⟨rfl,hR _⟩,⟨rfl,hR _⟩,⟨rfl,hR _⟩,⟨rfl,hR _⟩⟩) (zB (λ_=>yc) (λhb3=>(zB (by first|exact⟨rfl,YI (hs 3 (by omega)) hb3⟩|exact⟨⟨rfl,hR _⟩,⟨rfl,hR _⟩,⟨rfl,hR _⟩,⟨rfl,hR _⟩,⟨rfl,hR _⟩,⟨rfl,hR _⟩⟩) (zB (λ_=>yc) (λhb4=>(zB (by first|exact⟨rfl,YI (hs 4 (by omega)) hb4⟩|exact⟨⟨rfl,hR _⟩,⟨rfl,hR _⟩,⟨rfl,hR _⟩,⟨rfl,hR _⟩,⟨rfl,hR _⟩,⟨rfl,hR _⟩⟩) (zB (λ_=>yc) (λhb5=>(zB (by first|exact⟨rfl,YI (hs 5 (by omega)) hb5⟩|exact⟨⟨rfl,hR _⟩,⟨rfl,hR _⟩,⟨rfl,hR _⟩,⟨rfl,hR _⟩,⟨rfl,hR _⟩,⟨rfl,hR _⟩⟩) (zB (by first|exact⟨rfl,YI (hs 5 (by omega)) hb5⟩|exact⟨⟨rfl,hR _⟩,⟨rfl,hR _⟩,⟨rfl,hR _⟩,⟨rfl,hR _⟩,⟨rfl,hR _⟩,⟨rfl,hR _⟩⟩) yc)))))))))))))))))))) (by kernel_rfl) (by kernel_rfl)
def may6(a:Nat->Zq):Bool:=Zgw (λs=>Xo s.toNat) (λs=>Xh s.toNat) (λe0 e1 e2 e3 e4 e5=>Xf 6 (row6 e0 e1 e2 e3 e4 e5)) a
theorem Zqy(a:Nat->Zq)(hs:∀j,j<6->0<=(a j).f0/\(a j).f0<4294967296):Zi P 69 (.cons (.rsl ze 1 6 λj=>ZL ze (a j)) .nil) (.bool za (may6 a)):=may6_gen (λs=>Xo s.toNat) (λs=>Xh s.toNat) (λe0 e1 e2 e3 e4 e5=>Xf 6 (row6 e0 e1 e2 e3 e4 e5)) a VA c_gm6_ok (λs=>V9 _) hs
def may7_T(LN:Int->Nat)(LI:Int->Nat->DT3)(GM:Zc->Zc->Zc->Zc->Zc->Zc->Zc->Bool)(a:Nat->Zq):Tree V:=
 let q0:=(zx (zC ze za))
 zD (Y2 (a 0).f0) q0 (zw (zf (zn za .u32 (a 0).f0) zh=zf (zn za .u32 (a 0).f0) zh/\(0:Int)<=(a (0)).f0/\(a (0)).f0<(256:Int)) (zD (Y2 (a 1).f0) q0 (zw (zf (zn za .u32 (a 1).f0) zh=zf (zn za .u32 (a 1).f0) zh/\(0:Int)<=(a (0+(1:Nat))).f0/\(a (0+(1:Nat))).f0<(256:Int)) (zD (Y2 (a 2).f0) q0 (zw (zf (zn za .u32 (a 2).f0) zh=zf (zn za .u32 (a 2).f0) zh/\(0:Int)<=(a (1+(1:Nat))).f0/\(a (1+(1:Nat))).f0<(256:Int)) (zD (Y2 (a 3).f0) q0 (zw (zf (zn za .u32 (a 3).f0) zh=zf (zn za .u32 (a 3).f0) zh/\(0:Int)<=(a (2+(1:Nat))).f0/\(a (2+(1:Nat))).f0<(256:Int)) (zD (Y2 (a 4).f0) q0 (zw (zf (zn za .u32 (a 4).f0) zh=zf (zn za .u32 (a 4).f0) zh/\(0:Int)<=(a (3+(1:Nat))).f0/\(a (3+(1:Nat))).f0<(256:Int)) (zD (Y2 (a 5).f0) q0 (zw (zf (zn za .u32 (a 5).f0) zh=zf (zn za .u32 (a 5).f0) zh/\(0:Int)<=(a (4+(1:Nat))).f0/\(a (4+(1:Nat))).f0<(256:Int)) (zD (Y2 (a 6).f0) q0 (zw (zf (zn za .u32 (a 6).f0) zh=zf (zn za .u32 (a 6).f0) zh/\(0:Int)<=(a (5+(1:Nat))).f0/\(a (5+(1:Nat))).f0<(256:Int)) (zw ((zf (lsV LN LI (a 0).f0) zh=zf (lsV LN LI (a 0).f0) zh/\rowOk (lsR LN LI (a 0).f0))/\(zf (lsV LN LI (a 1).f0) zh=zf (lsV LN LI (a 1).f0) zh/\rowOk (lsR LN LI (a 1).f0))/\(zf (lsV LN LI (a 2).f0) zh=zf (lsV LN LI (a 2).f0) zh/\rowOk (lsR LN LI (a 2).f0))/\(zf (lsV LN LI (a 3).f0) zh=zf (lsV LN LI (a 3).f0) zh/\rowOk (lsR LN LI (a 3).f0))/\(zf (lsV LN LI (a 4).f0) zh=zf (lsV LN LI (a 4).f0) zh/\rowOk (lsR LN LI (a 4).f0))/\(zf (lsV LN LI (a 5).f0) zh=zf (lsV LN LI (a 5).f0) zh/\rowOk (lsR LN LI (a 5).f0))/\zf (lsV LN LI (a 6).f0) zh=zf (lsV LN LI (a 6).f0) zh/\rowOk (lsR LN LI (a 6).f0)) (zx (zC za (GM (lsR LN LI (a 0).f0) (lsR LN LI (a 1).f0) (lsR LN LI (a 2).f0) (lsR LN LI (a 3).f0) (lsR LN LI (a 4).f0) (lsR LN LI (a 5).f0) (lsR LN LI (a 6).f0))))))))))))))))))
theorem may7_tree(LN:Int->Nat)(LI:Int->Nat->DT3)(GM:Zc->Zc->Zc->Zc->Zc->Zc->Zc->Bool)(a:Nat->Zq):ZU (ZN P [XJ LN LI,c_gm7 GM] [112,69]) 400 69 (.cons (.rsl ze 1 7 λj=>ZL ze (a j)) .nil)=may7_T LN LI GM a:=by kernel_rfl
def Zgx(LN:Int->Nat)(LI:Int->Nat->DT3)(GM:Zc->Zc->Zc->Zc->Zc->Zc->Zc->Bool)(a:Nat->Zq):Bool:=(may7_T LN LI GM a).join.toBool
theorem may7_gen(LN:Int->Nat)(LI:Int->Nat->DT3)(GM:Zc->Zc->Zc->Zc->Zc->Zc->Zc->Bool)(a:Nat->Zq)(hL:(XJ LN LI).Ok P)(hG:(c_gm7 GM).Ok P)(hR:∀s,rowOk ⟨LN s,λk=>LI s k⟩)(hs:∀j,j<7->0<=(a j).f0/\(a j).f0<4294967296):Zi P 69 (.cons (.rsl ze 1 7 λj=>ZL ze (a j)) .nil) (.bool za (Zgx LN LI GM a)):=
 Xp (YJ hm hn (l:=[XJ LN LI,c_gm7 GM]) ⟨hL,hG,trivial⟩) 400 (Has.of hn Tryz.func69 rfl) (may7_tree LN LI GM a) (Tree.Pre.mk (zB (λ_=>yc) (λhb0=>(zB (by first|exact⟨rfl,YI (hs 0 (by omega)) hb0⟩|exact⟨⟨rfl,hR _⟩,⟨rfl,hR _⟩,⟨rfl,hR _⟩,⟨rfl,hR _⟩,⟨rfl,hR _⟩,⟨rfl,hR _⟩,⟨rfl,hR _⟩⟩) (zB (λ_=>yc) (λhb1=>(zB (by first|exact⟨rfl,YI (hs 1 (by omega)) hb1⟩|exact⟨⟨rfl,hR _⟩,⟨rfl,hR _⟩,⟨rfl,hR _⟩,⟨rfl,hR _⟩,⟨rfl,hR _⟩,⟨rfl,hR _⟩,⟨rfl,hR _⟩⟩) (zB (λ_=>yc) (λhb2=>(zB (by first|exact⟨rfl,YI (hs 2 (by omega)) hb2⟩|exact⟨⟨rfl,hR _⟩,⟨rfl,hR _⟩,⟨rfl,hR _⟩,⟨rfl,hR _⟩,⟨rfl,hR _⟩,⟨rfl,hR _⟩,⟨rfl,hR _⟩⟩) (zB (λ_=>yc) (λhb3=>(zB (by first|exact⟨rfl,YI (hs 3 (by omega)) hb3⟩|exact⟨⟨rfl,hR _⟩,⟨rfl,hR _⟩,⟨rfl,hR _⟩,⟨rfl,hR _⟩,⟨rfl,hR _⟩,⟨rfl,hR _⟩,⟨rfl,hR _⟩⟩) (zB (λ_=>yc) (λhb4=>(zB (by first|exact⟨rfl,YI (hs 4 (by omega)) hb4⟩|exact⟨⟨rfl,hR _⟩,⟨rfl,hR _⟩,⟨rfl,hR _⟩,⟨rfl,hR _⟩,⟨rfl,hR _⟩,⟨rfl,hR _⟩,⟨rfl,hR _⟩⟩) (zB (λ_=>yc) (λhb5=>(zB (by first|exact⟨rfl,YI (hs 5 (by omega)) hb5⟩|exact⟨⟨rfl,hR _⟩,⟨rfl,hR _⟩,⟨rfl,hR _⟩,⟨rfl,hR _⟩,⟨rfl,hR _⟩,⟨rfl,hR _⟩,⟨rfl,hR _⟩⟩) (zB (λ_=>yc) (λhb6=>(zB (by first|exact⟨rfl,YI (hs 6 (by omega)) hb6⟩|exact⟨⟨rfl,hR _⟩,⟨rfl,hR _⟩,⟨rfl,hR _⟩,⟨rfl,hR _⟩,⟨rfl,hR _⟩,⟨rfl,hR _⟩,⟨rfl,hR _⟩⟩) (zB (by first|exact⟨rfl,YI (hs 6 (by omega)) hb6⟩|exact⟨⟨rfl,hR _⟩,⟨rfl,hR _⟩,⟨rfl,hR _⟩,⟨rfl,hR _⟩,⟨rfl,hR _⟩,⟨rfl,hR _⟩,⟨rfl,hR _⟩⟩) yc))))))))))))))))))))))) (by kernel_rfl) (by kernel_rfl)
def may7(a:Nat->Zq):Bool:=Zgx (λs=>Xo s.toNat) (λs=>Xh s.toNat) (λe0 e1 e2 e3 e4 e5 e6=>Xf 7 (row7 e0 e1 e2 e3 e4 e5 e6)) a
theorem Zqz(a:Nat->Zq)(hs:∀j,j<7->0<=(a j).f0/\(a j).f0<4294967296):Zi P 69 (.cons (.rsl ze 1 7 λj=>ZL ze (a j)) .nil) (.bool za (may7 a)):=may7_gen (λs=>Xo s.toNat) (λs=>Xh s.toNat) (λe0 e1 e2 e3 e4 e5 e6=>Xf 7 (row7 e0 e1 e2 e3 e4 e5 e6)) a VA c_gm7_ok (λs=>V9 _) hs
def may8_T(LN:Int->Nat)(LI:Int->Nat->DT3)(GM:Zc->Zc->Zc->Zc->Zc->Zc->Zc->Zc->Bool)(a:Nat->Zq):Tree V:=
 let q0:=(zx (zC ze za))
 zD (Y2 (a 0).f0) q0 (zw (zf (zn za .u32 (a 0).f0) zh=zf (zn za .u32 (a 0).f0) zh/\(0:Int)<=(a (0)).f0/\(a (0)).f0<(256:Int)) (zD (Y2 (a 1).f0) q0 (zw (zf (zn za .u32 (a 1).f0) zh=zf (zn za .u32 (a 1).f0) zh/\(0:Int)<=(a (0+(1:Nat))).f0/\(a (0+(1:Nat))).f0<(256:Int)) (zD (Y2 (a 2).f0) q0 (zw (zf (zn za .u32 (a 2).f0) zh=zf (zn za .u32 (a 2).f0) zh/\(0:Int)<=(a (1+(1:Nat))).f0/\(a (1+(1:Nat))).f0<(256:Int)) (zD (Y2 (a 3).f0) q0 (zw (zf (zn za .u32 (a 3).f0) zh=zf (zn za .u32 (a 3).f0) zh/\(0:Int)<=(a (2+(1:Nat))).f0/\(a (2+(1:Nat))).f0<(256:Int)) (zD (Y2 (a 4).f0) q0 (zw (zf (zn za .u32 (a 4).f0) zh=zf (zn za .u32 (a 4).f0) zh/\(0:Int)<=(a (3+(1:Nat))).f0/\(a (3+(1:Nat))).f0<(256:Int)) (zD (Y2 (a 5).f0) q0 (zw (zf (zn za .u32 (a 5).f0) zh=zf (zn za .u32 (a 5).f0) zh/\(0:Int)<=(a (4+(1:Nat))).f0/\(a (4+(1:Nat))).f0<(256:Int)) (zD (Y2 (a 6).f0) q0 (zw (zf (zn za .u32 (a 6).f0) zh=zf (zn za .u32 (a 6).f0) zh/\(0:Int)<=(a (5+(1:Nat))).f0/\(a (5+(1:Nat))).f0<(256:Int)) (zD (Y2 (a 7).f0) q0 (zw (zf (zn za .u32 (a 7).f0) zh=zf (zn za .u32 (a 7).f0) zh/\(0:Int)<=(a (6+(1:Nat))).f0/\(a (6+(1:Nat))).f0<(256:Int)) (zw ((zf (lsV LN LI (a 0).f0) zh=zf (lsV LN LI (a 0).f0) zh/\rowOk (lsR LN LI (a 0).f0))/\(zf (lsV LN LI (a 1).f0) zh=zf (lsV LN LI (a 1).f0) zh/\rowOk (lsR LN LI (a 1).f0))/\(zf (lsV LN LI (a 2).f0) zh=zf (lsV LN LI (a 2).f0) zh/\rowOk (lsR LN LI (a 2).f0))/\(zf (lsV LN LI (a 3).f0) zh=zf (lsV LN LI (a 3).f0) zh/\rowOk (lsR LN LI (a 3).f0))/\(zf (lsV LN LI (a 4).f0) zh=zf (lsV LN LI (a 4).f0) zh/\rowOk (lsR LN LI (a 4).f0))/\(zf (lsV LN LI (a 5).f0) zh=zf (lsV LN LI (a 5).f0) zh/\rowOk (lsR LN LI (a 5).f0))/\(zf (lsV LN LI (a 6).f0) zh=zf (lsV LN LI (a 6).f0) zh/\rowOk (lsR LN LI (a 6).f0))/\zf (lsV LN LI (a 7).f0) zh=zf (lsV LN LI (a 7).f0) zh/\rowOk (lsR LN LI (a 7).f0)) (zx (zC za (GM (lsR LN LI (a 0).f0) (lsR LN LI (a 1).f0) (lsR LN LI (a 2).f0) (lsR LN LI (a 3).f0) (lsR LN LI (a 4).f0) (lsR LN LI (a 5).f0) (lsR LN LI (a 6).f0) (lsR LN LI (a 7).f0))))))))))))))))))))
theorem may8_tree(LN:Int->Nat)(LI:Int->Nat->DT3)(GM:Zc->Zc->Zc->Zc->Zc->Zc->Zc->Zc->Bool)(a:Nat->Zq):ZU (ZN P [XJ LN LI,c_gm8 GM] [112,69]) 400 69 (.cons (.rsl ze 1 8 λj=>ZL ze (a j)) .nil)=may8_T LN LI GM a:=by kernel_rfl
def Zgy(LN:Int->Nat)(LI:Int->Nat->DT3)(GM:Zc->Zc->Zc->Zc->Zc->Zc->Zc->Zc->Bool)(a:Nat->Zq):Bool:=(may8_T LN LI GM a).join.toBool
theorem may8_gen(LN:Int->Nat)(LI:Int->Nat->DT3)(GM:Zc->Zc->Zc->Zc->Zc->Zc->Zc->Zc->Bool)(a:Nat->Zq)(hL:(XJ LN LI).Ok P)(hG:(c_gm8 GM).Ok P)(hR:∀s,rowOk ⟨LN s,λk=>LI s k⟩)(hs:∀j,j<8->0<=(a j).f0/\(a j).f0<4294967296):Zi P 69 (.cons (.rsl ze 1 8 λj=>ZL ze (a j)) .nil) (.bool za (Zgy LN LI GM a)):=
 Xp (YJ hm hn (l:=[XJ LN LI,c_gm8 GM]) ⟨hL,hG,trivial⟩) 400 (Has.of hn Tryz.func69 rfl) (may8_tree LN LI GM a) (Tree.Pre.mk (zB (λ_=>yc) (λhb0=>(zB (by first|exact⟨rfl,YI (hs 0 (by omega)) hb0⟩|exact⟨⟨rfl,hR _⟩,⟨rfl,hR _⟩,⟨rfl,hR _⟩,⟨rfl,hR _⟩,⟨rfl,hR _⟩,⟨rfl,hR _⟩,⟨rfl,hR _⟩,⟨rfl,hR _⟩⟩) (zB (λ_=>yc) (λhb1=>(zB (by first|exact⟨rfl,YI (hs 1 (by omega)) hb1⟩|exact⟨⟨rfl,hR _⟩,⟨rfl,hR _⟩,⟨rfl,hR _⟩,⟨rfl,hR _⟩,⟨rfl,hR _⟩,⟨rfl,hR _⟩,⟨rfl,hR _⟩,⟨rfl,hR _⟩⟩) (zB (λ_=>yc) (λhb2=>(zB (by first|exact⟨rfl,YI (hs 2 (by omega)) hb2⟩|exact⟨⟨rfl,hR _⟩,⟨rfl,hR _⟩,⟨rfl,hR _⟩,⟨rfl,hR _⟩,⟨rfl,hR _⟩,⟨rfl,hR _⟩,⟨rfl,hR _⟩,⟨rfl,hR _⟩⟩) (zB (λ_=>yc) (λhb3=>(zB (by first|exact⟨rfl,YI (hs 3 (by omega)) hb3⟩|exact⟨⟨rfl,hR _⟩,⟨rfl,hR _⟩,⟨rfl,hR _⟩,⟨rfl,hR _⟩,⟨rfl,hR _⟩,⟨rfl,hR _⟩,⟨rfl,hR _⟩,⟨rfl,hR _⟩⟩) (zB (λ_=>yc) (λhb4=>(zB (by first|exact⟨rfl,YI (hs 4 (by omega)) hb4⟩|exact⟨⟨rfl,hR _⟩,⟨rfl,hR _⟩,⟨rfl,hR _⟩,⟨rfl,hR _⟩,⟨rfl,hR _⟩,⟨rfl,hR _⟩,⟨rfl,hR _⟩,⟨rfl,hR _⟩⟩) (zB (λ_=>yc) (λhb5=>(zB (by first|exact⟨rfl,YI (hs 5 (by omega)) hb5⟩|exact⟨⟨rfl,hR _⟩,⟨rfl,hR _⟩,⟨rfl,hR _⟩,⟨rfl,hR _⟩,⟨rfl,hR _⟩,⟨rfl,hR _⟩,⟨rfl,hR _⟩,⟨rfl,hR _⟩⟩) (zB (λ_=>yc) (λhb6=>(zB (by first|exact⟨rfl,YI (hs 6 (by omega)) hb6⟩|exact⟨⟨rfl,hR _⟩,⟨rfl,hR _⟩,⟨rfl,hR _⟩,⟨rfl,hR _⟩,⟨rfl,hR _⟩,⟨rfl,hR _⟩,⟨rfl,hR _⟩,⟨rfl,hR _⟩⟩) (zB (λ_=>yc) (λhb7=>(zB (by first|exact⟨rfl,YI (hs 7 (by omega)) hb7⟩|exact⟨⟨rfl,hR _⟩,⟨rfl,hR _⟩,⟨rfl,hR _⟩,⟨rfl,hR _⟩,⟨rfl,hR _⟩,⟨rfl,hR _⟩,⟨rfl,hR _⟩,⟨rfl,hR _⟩⟩) (zB (by first|exact⟨rfl,YI (hs 7 (by omega)) hb7⟩|exact⟨⟨rfl,hR _⟩,⟨rfl,hR _⟩,⟨rfl,hR _⟩,⟨rfl,hR _⟩,⟨rfl,hR _⟩,⟨rfl,hR _⟩,⟨rfl,hR _⟩,⟨rfl,hR _⟩⟩) yc)))))))))))))))))))))))))) (by kernel_rfl) (by kernel_rfl)
def may8(a:Nat->Zq):Bool:=Zgy (λs=>Xo s.toNat) (λs=>Xh s.toNat) (λe0 e1 e2 e3 e4 e5 e6 e7=>Xf 8 (row8 e0 e1 e2 e3 e4 e5 e6 e7)) a
theorem ZqA(a:Nat->Zq)(hs:∀j,j<8->0<=(a j).f0/\(a j).f0<4294967296):Zi P 69 (.cons (.rsl ze 1 8 λj=>ZL ze (a j)) .nil) (.bool za (may8 a)):=may8_gen (λs=>Xo s.toNat) (λs=>Xh s.toNat) (λe0 e1 e2 e3 e4 e5 e6 e7=>Xf 8 (row8 e0 e1 e2 e3 e4 e5 e6 e7)) a VA c_gm8_ok (λs=>V9 _) hs
def Ql(n:Nat)(a:Nat->Zq):Bool:=match n with
 |0=>may0 a
 |1=>may1 a
 |2=>may2 a
 |3=>may3 a
 |4=>may4 a
 |5=>may5 a
 |6=>may6 a
 |7=>may7 a
 |8=>may8 a
 |_=>za
theorem ZpT(n:Nat)(hn8:n<=8)(a:Nat->Zq)(hs:∀j,j<n->0<=(a j).f0/\(a j).f0<4294967296):Zi P 69 (.cons (.rsl za 1 n λj=>ZL za (a j)) .nil) (.bool za (Ql n a)):=by
 have key:Zi P 69 (.cons (.rsl ze 1 n λj=>ZL ze (a j)) .nil) (.bool za (Ql n a)):=by
  match n,hn8,hs with
  |0,_,hs=>exact Zqs a hs
  |1,_,hs=>exact Zqt a hs
  |2,_,hs=>exact Zqu a hs
  |3,_,hs=>exact Zqv a hs
  |4,_,hs=>exact Zqw a hs
  |5,_,hs=>exact Zqx a hs
  |6,_,hs=>exact Zqy a hs
  |7,_,hs=>exact Zqz a hs
  |8,_,hs=>exact ZqA a hs
  |_+9,h,_=>omega
 exact Zi.args key λF w n' m xs hx=>((Y0 (.cons (.rsl ze 1 n λj=>ZL ze (a j)) .nil) n' m).2 xs).1 (((Y0 (.cons (.rsl za 1 n λj=>ZL za (a j)) .nil) n' m).2 xs).2 hx)
def Vz:Con:={ g:=69,al:=ze,ans:=λx=>match x with
 | .cons (.rsl _ 1 n get) .nil=>zk (.where_ (n<=8/\∀j,j<n->(get j).soft=ZL za (Yq (get j))/\0<=(Yq (get j)).f0/\(Yq (get j)).f0<4294967296) (.bool za (Ql n λj=>Yq (get j))))
 |_=>zm }
theorem Zh4:Vz.Ok P:=by
 intro x
 dsimp only[Vz]
 split
 ·rename_i v h
  split at h<;>cases h
 ·rename_i p v h
  split at h
  ·rename_i n get
   injection h with h
   injection h with h1 h2
   subst h1;subst h2
   intro hp
   exact Zi.args (ZpT n hp.1 (λj=>Yq (get j)) (λj hj=>(hp.2 j hj).2)) λF w n' m xs hx=>Vw (λj hj=>by rw[(hp.2 j hj).1];rfl) hx
  ·cases h
 ·rename_i h
  split at h<;>cases h
 ·trivial
abbrev Zc2(d:Zf)(i:Int)(z:Unit):V:=(.cons (.ptr ze 0 0 0 0) (.cons (.bool ze za) (.cons (.rsl za 2 (Za.n5 (Zf.a d)) (λj=>Zw za ((Zf.a d).r5 j))) (.cons (.int za .i64 (((Za.n5 (Zf.a d)):Nat):Int)) (.cons (.int za .i64 i) .nil)))))
abbrev Zc3(d:Zf)(i:Int)(z:Unit):List Blk:=[.var (YB d.a),mO d,mN d,mH d]
def ga1_R(d:Zf)(i:Int)(z:Unit):Tree Rd:=
 let q0:=(WJ d (d.a.r5 (zi i)).n1 (λj=>ZM (ZP za ((d.a.r5 (zi i)).3 j))) (d.a.r5 (zi i)).n1)
 let q4:=(zl za 2 d.a.n5 λj=>Zw za (d.a.r5 j))
 let q1:=(zf (zl za 2 d.a.n1 λj=>ZR za (d.a.r1 j)) (zf (zl za 1 d.a.n2 λj=>zf (zn za .u32 (d.a.r2 j).f0) zh) (zf (zl za 4 d.a.n3 λj=>Zr za (d.a.r3 j)) (zf (zl za 4 d.a.n4 λj=>Zn za (d.a.r4 j)) (zf q4 (zf (zl za 11 d.a.n6 λj=>Zo za (d.a.r6 j)) (zf (zl za 2 d.a.n7 λj=>ZO za (d.a.r7 j)) (zf (zl za 5 d.a.n8 λj=>ZI za (d.a.r8 j)) (ci d.a.f9 (zf (zl za 2 d.a.n10 λj=>ZE za (d.a.r10 j)) (zf (zl za 3 d.a.n11 λj=>Zx za (d.a.r11 j)) (zf (zl za 2 d.a.n12 λj=>Zt za (d.a.r12 j)) (zf (zn za .u64 d.a.f13) (zf (zZ 1) (zf (zZ 2) (zf (zZ 3) zh))))))))))))))))
 let q3:=(zl za 2 d.a.n5 λjj=>Zw za (d.a.r5 jj))
 let q2:=(zx (Ex.ret,ze,zf (pt 0) (zf (zC ze za) (zf q3 (ci ((d.a.n5:Nat):Int) (ci i zh)))),[zN (YB d.a),mO d,mN d,mH d]))
 zw ((0:Int)<=i/\i<((d.a.n5:Nat):Int)) (zw ((d.a.r5 (zi i)).n1<=(1000:Nat)/\(zV za 0 0 0 0=zV za 0 0 0 0/\zC za za=zC za za/\zV za 4 0 0 0=zV za 4 0 0 0/\((0:Nat)=(0:Nat)/\(5:Nat)<(6:Nat))/\(q4=zl za 2 d.a.n5 λj=>Zw za (d.a.r5 j))/\vi ((d.a.n5:Nat):Int)=vi ((d.a.n5:Nat):Int)/\vi i=vi i/\((zl za 1 (d.a.r5 (zi i)).n1 λj=>ci ((d.a.r5 (zi i)).3 j).f0 zh)=zl za 1 (d.a.r5 (zi i)).n1 λj=>ci ((d.a.r5 (zi i)).3 j).f0 zh)/\vi (((d.a.r5 (zi i)).n1:Nat):Int)=vi (((d.a.r5 (zi i)).n1:Nat):Int)/\vi (0:Int)=vi (0:Int)/\zh=zh)/\ci d.a.f0 q1=ci d.a.f0 q1/\(zq=zq/\YR .i64 (λx=>(d.2 (Zb x),vi (d.3 (Zb x)))) λk=>(d.2 (Zb k),vi (d.3 (Zb k))))/\(zq=zq/\YR .i64 (λx=>(d.4 (Zb x),vi (d.5 (Zb x)))) λk=>(d.4 (Zb k),vi (d.5 (Zb k))))/\(zq=zq/\YR .i64 (λx=>(d.6 (Zb x),vi (d.7 (Zb x)))) λk=>(d.6 (Zb k),vi (d.7 (Zb k))))/\Zw za (d.a.r5 (zi i))=Zw za (d.a.r5 (zi i))/\(0:Nat)=(0:Nat)/\True) (zD (bif Zv (VO d (d.a.r5 (zi i)).n1 λj=>ZM (ZP za ((d.a.r5 (zi i)).3 j))) (d.a.r5 (zi i)).n1 then ze else za) q2 (zw ((0:Nat)+zL q0<=zL q0) (zw (zL q0<=(8:Nat)/\∀(j:Nat),j<zL q0->zf (zn za .u32 (q0.2 ((0:Nat)+j)).f0) zh=ZL za (Yq (ZL za (q0.2 ((0:Nat)+j))))/\(0:Int)<=(q0.2 ((0:Nat)+j)).f0/\(q0.2 ((0:Nat)+j)).f0<(4294967296:Int)) (zD (bif !Ql (zL q0) λj=>Yq (ZL za (q0.2 ((0:Nat)+j)))then ze else za) q2 (zx (Ex.normal,ze,zf (pt 0) (zf (zC ze za) (zf q3 (ci ((d.a.n5:Nat):Int) (ci (zy .i64 (i+(1:Int))) zh)))),[zN (YB d.a),mO d,mN d,mH d])))))))
theorem ga1_round(d:Zf):Yo P (Zp P [X9,Vz] [ga2_in d] ze) 38 2 4 4 59 [0,2,13,14,15] [(0,.own),(1,.own),(2,.own),(3,.own)] [] (Zc2 d) (Zc3 d) (λi=>(bif decide (i<((d.a.n5:Nat):Int))then za else ze)) (.exit 0) (ga1_R d):=λB i z=>by kernel_rfl
def Uw(d:Zf)(k:Nat):Bool:=(ga1_R d k ()).early
abbrev ga1_ets(d:Zf)(i:Int)(z:Unit):V:=(.cons (zV ze 0 0 0 0) (.cons (zC ze za) (.cons (zl za 2 d.a.n5 λjj=>Zw za (d.a.r5 jj)) (.cons (zn za .i64 ((d.a.n5:Nat):Int)) (.cons .junk .nil)))))
def Zf2(d:Zf):Lp:=lpL 38 2 4 4 59 [0,2,13,14,15] [(0,.own),(1,.own),(2,.own),(3,.own)] [] (Zc2 d) (Zc3 d) (.exit 0) .ret () (λ_=>()) (Uw d) (Za.n5 (Zf.a d)) (ga1_ets d) (Zc3 d)
def ga1_need(d:Zf):Prop:=YW 4 [] (Zc2 d) (Zc3 d) () (Zc2 d (0:Nat) ()) (Zc3 d (0:Nat) ())
theorem ga1_fit(d:Zf):ga1_need d:=⟨rfl,⟨rfl,⟨rfl,λ_=>⟨rfl,rfl⟩⟩,⟨rfl,λ_=>⟨rfl,rfl⟩⟩,⟨rfl,λ_=>⟨rfl,rfl⟩⟩,trivial⟩⟩
theorem ga1_lp_ok(d:Zf)(hl:d.a.n5<=1000)(hM:∀j,j<d.a.n5->0<(d.a.r5 j).n1/\(d.a.r5 j).n1<=8)(hMA:∀j,(d.a.r5 j).n1<=1000)(hO:∀j:Int,d.oh j=ze->0<=d.og j/\d.og j<d.a.n6)(h64:d.a.n6=d.a.n4)(hl3:d.a.n3<=1000)(hl4:d.a.n4<=1000)(hH:0<d.a.n4->∀j:Int,0<=(bif d.hh j then d.hg j else 0)/\(bif d.hh j then d.hg j else 0)<d.a.n3)(hP:0<d.a.n4->∀j:Int,0<=(d.a.r3 (bif d.hh j then d.hg j else 0).toNat).f3/\(d.a.r3 (bif d.hh j then d.hg j else 0).toNat).f3<d.a.n2):(Zf2 d).Ok P:=by
 refine Xg (ZC hm hn (l:=[X9,Vz]) ⟨Vy,Zh4,trivial⟩ (ls:=[ga2_in d]) ⟨ga2_in_ok d hO h64 hl3 hl4 hH hP,trivial⟩ ze) rfl (by kernel_rfl) (ga1_round d) exN YK (λ_=>rfl) (step:=λ_ z=>z) (rd:=(λ_ t y=>())) (λi z=>rfl) (λi=>rfl) rfl (λi hlt hg=>?_) (λi z hi=>?_)
 ·have hltI:(i:Int)<(((Za.n5 (Zf.a d)):Nat):Int):=by omega
  refine⟨?_,⟨?_,⟨λhb0=>trivial,λhb0=>⟨?_,⟨?_,⟨λhb1=>trivial,λhb1=>trivial⟩⟩⟩⟩⟩⟩
  all_goals(have hf0:=hM ((i:Int).toNat) (by omega))
  all_goals(repeat'(first|exact rfl|exact λ_=>⟨rfl,rfl⟩|apply zB|intro _))
  all_goals(try simp only[decide_eq_true_eq,decide_eq_false_iff_not,yj,yu]at*)
  all_goals(try simp(disch:=omega) only[IntWalk.i64_in])
  all_goals(first|omega|exact hMA _|exact(Nat.le_trans (ga2_cnt _ _ _ _) (hM _ (by omega)).2)|exact(Zf3 _ _ _ _ _ (by assumption)).1|exact(Zf3 _ _ _ _ _ (by assumption)).2|exact(by rw[z8];exact(Zf3 _ _ _ _ _ (by assumption)).1)|exact(by rw[z8];exact(Zf3 _ _ _ _ _ (by assumption)).2))
 ·have hw:=(IntWalk.i64_in ((i:Int)+1) ⟨by omega,by omega⟩)
  refine⟨?_,⟨?_,?_⟩⟩
  all_goals(first|exact⟨rfl,YL (ts:=Zc2 d) (a:=()) hw rfl,Yg _⟩|exact⟨rfl,rfl,(by repeat'(first|exact Le.refl _|exact Le.junk _ rfl|apply Le.cons)),Yg _⟩)
def vGanged_T(d:Zf):Tree (V×List Blk):=
 let q3:=(zl za 2 d.a.n5 λj=>Zw za (d.a.r5 j))
 let q0:=(zf (zl za 2 d.a.n1 λj=>ZR za (d.a.r1 j)) (zf (zl za 1 d.a.n2 λj=>zf (zn za .u32 (d.a.r2 j).f0) zh) (zf (zl za 4 d.a.n3 λj=>Zr za (d.a.r3 j)) (zf (zl za 4 d.a.n4 λj=>Zn za (d.a.r4 j)) (zf q3 (zf (zl za 11 d.a.n6 λj=>Zo za (d.a.r6 j)) (zf (zl za 2 d.a.n7 λj=>ZO za (d.a.r7 j)) (zf (zl za 5 d.a.n8 λj=>ZI za (d.a.r8 j)) (ci d.a.f9 (zf (zl za 2 d.a.n10 λj=>ZE za (d.a.r10 j)) (zf (zl za 3 d.a.n11 λj=>Zx za (d.a.r11 j)) (zf (zl za 2 d.a.n12 λj=>Zt za (d.a.r12 j)) (zf (zn za .u64 d.a.f13) (zf (zZ 1) (zf (zZ 2) (zf (zZ 3) zh))))))))))))))))
 let q1:=[zN (YB d.a),Blk.Zm (MK.int .i64) za (λk=>(d.2 (Zb k),vi (d.3 (Zb k)))) zm,Blk.Zm (MK.int .i64) za (λk=>(d.4 (Zb k),vi (d.5 (Zb k)))) zm,Blk.Zm (MK.int .i64) za (λk=>(d.6 (Zb k),vi (d.7 (Zb k)))) zm]
 let q2:=(zf (zC za za) (zf q3 (ci ((d.a.n5:Nat):Int) (ci (0:Int) zh))))
 zw (zf (zV za 0 0 0 0) q2=zf (zV za 0 0 0 0) q2/\ci d.a.f0 q0=ci d.a.f0 q0/\(zq=zq/\YR .i64 (λx=>(d.2 (Zb x),vi (d.3 (Zb x)))) λk=>(d.2 (Zb k),vi (d.3 (Zb k))))/\(zq=zq/\YR .i64 (λx=>(d.4 (Zb x),vi (d.5 (Zb x)))) λk=>(d.4 (Zb k),vi (d.5 (Zb k))))/\(zq=zq/\YR .i64 (λx=>(d.6 (Zb x),vi (d.7 (Zb x)))) λk=>(d.6 (Zb k),vi (d.7 (Zb k))))/\True) (zD (bif Zv (Uw d) d.a.n5 then ze else za) (zx (zC ze za,q1)) (zx (zC ze ze,q1)))
theorem ZrR(d:Zf):evH (Zp P [X9,Vz] [Zf2 d] ze) 400 38 (.cons (.ptr ze 0 0 0 0) .nil) (YA d)=vGanged_T d:=by kernel_rfl
def Zat(d:Zf):Bool:=
  (bif bif Zv (Uw d) d.a.n5 then ze else za then(za)else(ze))
theorem ZrP(d:Zf)(h0:d.a.n3<=1000)(h1:d.a.n4<=1000)(h2:d.a.n5<=1000)(h3:∀j,j<d.a.n5->0<(d.a.r5 j).n1/\(d.a.r5 j).n1<=8)(h4:∀j,(d.a.r5 j).n1<=1000)(h5:∀j:Int,d.oh j=ze->0<=d.og j/\d.og j<d.a.n6)(h6:d.a.n6=d.a.n4)(h7:0<d.a.n4->∀j:Int,0<=(bif d.hh j then d.hg j else 0)/\(bif d.hh j then d.hg j else 0)<d.a.n3)(h8:0<d.a.n4->∀j:Int,0<=(d.a.r3 (bif d.hh j then d.hg j else 0).toNat).f3/\(d.a.r3 (bif d.hh j then d.hg j else 0).toNat).f3<d.a.n2):YG P 38 (.cons (.ptr ze 0 0 0 0) .nil) (YA d) (.leaf (.bool za (Zat d),YA d)):=by
 refine G8 (E:=(Zp P [X9,Vz] [Zf2 d] ze)) (ZC hm hn (l:=[X9,Vz]) ⟨Vy,Zh4,trivial⟩ (ls:=[Zf2 d]) ⟨ga1_lp_ok d h2 h3 h4 h5 h6 h0 h1 h7 h8,trivial⟩ ze) (ZrR d) ((cC rfl rfl)) ⟨⟨rfl,rfl⟩,⟨rfl,rfl⟩⟩ ?_
 refine⟨?_,⟨λhb0=>trivial,λhb0=>trivial⟩⟩
 all_goals((repeat'(first|exact ga1_fit d|exact rfl|exact λ_=>⟨rfl,rfl⟩|apply zB|intro _));all_goals(try simp only[decide_eq_true_eq,decide_eq_false_iff_not]at*);all_goals(first|omega|exact ga1_fit d))
def ZbS:HK:=λargs bl=>match args,bl with
 |(.cons (.ptr ze 0 0 0 0) .nil),[.var c,.Zm (.int .i64) _ fo _,.Zm (.int .i64) _ fn _,.Zm (.int .i64) _ fh _]=>zk (c.Jj λc=>.need (UZ c fo fn fh/\(λ(d:Zf)=>d.a.n3<=1000/\d.a.n4<=1000/\d.a.n5<=1000/\(∀j,j<d.a.n5->0<(d.a.r5 j).n1/\(d.a.r5 j).n1<=8)/\(∀j,(d.a.r5 j).n1<=1000)/\(∀j:Int,d.oh j=ze->0<=d.og j/\d.og j<d.a.n6)/\d.a.n6=d.a.n4/\(0<d.a.n4->∀j:Int,0<=(bif d.hh j then d.hg j else 0)/\(bif d.hh j then d.hg j else 0)<d.a.n3)/\(0<d.a.n4->∀j:Int,0<=(d.a.r3 (bif d.hh j then d.hg j else 0).toNat).f3/\(d.a.r3 (bif d.hh j then d.hg j else 0).toNat).f3<d.a.n2)) (XF c fo fn fh)) (.leaf (.bool za (Zat (XF c fo fn fh)),YA (XF c fo fn fh))))
 |_,_=>zm
theorem ZrQ:Xj P 38 ZbS:=by
 intro args bl T hT
 unfold ZbS at hT
 split at hT
 ·rename_i c q1 fo q2 q3 fn q4 q5 fh q6
  injection hT with hT
  subst hT
  intro base mm F w xs Q KK h1 h2 hq hk
  simp only[V.JU]at hq
  obtain⟨hp,hq⟩:=hq
  exact YG.le (bl:=[.var c,.Zm (.int .i64) q1 fo q2,.Zm (.int .i64) q3 fn q4,.Zm (.int .i64) q5 fh q6]) (ZrP (XF c fo fn fh) hp.2.1 hp.2.2.1 hp.2.2.2.1 hp.2.2.2.2.1 hp.2.2.2.2.2.1 hp.2.2.2.2.2.2.1 hp.2.2.2.2.2.2.2.1 hp.2.2.2.2.2.2.2.2.1 hp.2.2.2.2.2.2.2.2.2) rfl (λb=>Zaw hp.1 b) base mm F w xs Q KK h1 h2 hq hk
 ·cases hT
abbrev Zd3(d:Zf)(i:Int)(z:Unit):V:=(.cons (.ptr ze 0 0 0 0) (.cons (.bool ze za) (.cons (.rsl za 5 (Za.n8 (Zf.a d)) (λj=>ZI za ((Zf.a d).r8 j))) (.cons (.int za .i64 (((Za.n8 (Zf.a d)):Nat):Int)) (.cons (.int za .i64 i) .nil)))))
abbrev Zd4(d:Zf)(i:Int)(z:Unit):List Blk:=[.var (YB d.a),mO d,mN d,mH d]
def wt1_R(d:Zf)(i:Int)(z:Unit):Tree Rd:=
 let q0:=(zl za 5 d.a.n8 λjj=>ZI za (d.a.r8 jj))
 zw (((0:Int)<=i/\i<((d.a.n8:Nat):Int))/\((bif !d.2 (d.a.r8 (zi i)).f1 then ze else za)=za->((0:Int)<=bif d.2 (d.a.r8 (zi i)).f1 then d.3 (d.a.r8 (zi i)).f1 else(0:Int))/\(bif d.2 (d.a.r8 (zi i)).f1 then d.3 (d.a.r8 (zi i)).f1 else(0:Int))<((d.a.n6:Nat):Int))) (zD (bif bif !d.2 (d.a.r8 (zi i)).f1 then ze else za then ze else za) (zx (Ex.ret,ze,zf (pt 0) (zf (zC ze za) (zf q0 (ci ((d.a.n8:Nat):Int) (ci i zh)))),[zN (YB d.a),mO d,mN d,mH d])) (zx (Ex.normal,ze,zf (pt 0) (zf (zC ze za) (zf q0 (ci ((d.a.n8:Nat):Int) (ci (zy .i64 (i+(1:Int))) zh)))),[zN (YB d.a),mO d,mN d,mH d])))
theorem wt1_round(d:Zf):Yo P (Zp P [] [] ze) 39 4 4 4 103 [0,2,32,33,34] [(0,.own),(1,.own),(2,.own),(3,.own)] [] (Zd3 d) (Zd4 d) (λi=>(bif decide (i<((d.a.n8:Nat):Int))then za else ze)) (.exit 0) (wt1_R d):=λB i z=>by kernel_rfl
def ZjK(d:Zf)(k:Nat):Bool:=(wt1_R d k ()).early
abbrev wt1_ets(d:Zf)(i:Int)(z:Unit):V:=(.cons (zV ze 0 0 0 0) (.cons (zC ze za) (.cons (zl za 5 d.a.n8 λjj=>ZI za (d.a.r8 jj)) (.cons (zn za .i64 ((d.a.n8:Nat):Int)) (.cons .junk .nil)))))
def Zhy(d:Zf):Lp:=lpL 39 4 4 4 103 [0,2,32,33,34] [(0,.own),(1,.own),(2,.own),(3,.own)] [] (Zd3 d) (Zd4 d) (.exit 0) .ret () (λ_=>()) (ZjK d) (Za.n8 (Zf.a d)) (wt1_ets d) (Zd4 d)
def wt1_need(d:Zf):Prop:=YW 4 [] (Zd3 d) (Zd4 d) () (Zd3 d (0:Nat) ()) (Zd4 d (0:Nat) ())
theorem wt1_fit(d:Zf):wt1_need d:=⟨rfl,⟨rfl,⟨rfl,λ_=>⟨rfl,rfl⟩⟩,⟨rfl,λ_=>⟨rfl,rfl⟩⟩,⟨rfl,λ_=>⟨rfl,rfl⟩⟩,trivial⟩⟩
theorem wt1_lp_ok(d:Zf)(hl:d.a.n8<=1000)(hO:∀j:Int,d.oh j=ze->0<=d.og j/\d.og j<d.a.n6):(Zhy d).Ok P:=by
 refine Xg (ZC hm hn (l:=[]) trivial (ls:=[]) trivial ze) rfl (by kernel_rfl) (wt1_round d) exN YK (λ_=>rfl) (step:=λ_ z=>z) (rd:=(λ_ t y=>())) (λi z=>rfl) (λi=>rfl) rfl (λi hlt hg=>?_) (λi z hi=>?_)
 ·have hltI:(i:Int)<(((Za.n8 (Zf.a d)):Nat):Int):=by omega
  refine⟨?_,⟨λhb0=>trivial,λhb0=>trivial⟩⟩
  all_goals(repeat'(first|exact rfl|exact λ_=>⟨rfl,rfl⟩|apply zB|intro _))
  all_goals(try simp only[decide_eq_true_eq,decide_eq_false_iff_not,yj,yu]at*)
  all_goals(try simp(disch:=omega) only[IntWalk.i64_in])
  all_goals(first|omega|exact(Jr ‹_› (hO _)).1|exact(Jr ‹_› (hO _)).2)
 ·have hw:=(IntWalk.i64_in ((i:Int)+1) ⟨by omega,by omega⟩)
  refine⟨?_,?_⟩
  all_goals(first|exact⟨rfl,YL (ts:=Zd3 d) (a:=()) hw rfl,Yg _⟩|exact⟨rfl,rfl,(by repeat'(first|exact Le.refl _|exact Le.junk _ rfl|apply Le.cons)),Yg _⟩)
abbrev Zd5(d:Zf)(i:Int)(z:Unit):V:=(.cons (.ptr ze 0 0 0 0) (.cons (.bool ze za) (.cons (.rsl za 3 (Za.n11 (Zf.a d)) (λj=>Zx za ((Zf.a d).r11 j))) (.cons (.int za .i64 (((Za.n11 (Zf.a d)):Nat):Int)) (.cons (.int za .i64 i) .nil)))))
abbrev Zd6(d:Zf)(i:Int)(z:Unit):List Blk:=[.var (YB d.a),mO d,mN d,mH d]
def wt2_R(d:Zf)(i:Int)(z:Unit):Tree Rd:=
 let q0:=(zl za 3 d.a.n11 λjj=>Zx za (d.a.r11 jj))
 zw (((0:Int)<=i/\i<((d.a.n11:Nat):Int))/\((bif !d.2 (d.a.r11 (zi i)).f0 then ze else za)=za->((0:Int)<=bif d.2 (d.a.r11 (zi i)).f0 then d.3 (d.a.r11 (zi i)).f0 else(0:Int))/\(bif d.2 (d.a.r11 (zi i)).f0 then d.3 (d.a.r11 (zi i)).f0 else(0:Int))<((d.a.n6:Nat):Int))) (zD (bif bif !d.2 (d.a.r11 (zi i)).f0 then ze else za then ze else za) (zx (Ex.ret,ze,zf (pt 0) (zf (zC ze za) (zf q0 (ci ((d.a.n11:Nat):Int) (ci i zh)))),[zN (YB d.a),mO d,mN d,mH d])) (zx (Ex.normal,ze,zf (pt 0) (zf (zC ze za) (zf q0 (ci ((d.a.n11:Nat):Int) (ci (zy .i64 (i+(1:Int))) zh)))),[zN (YB d.a),mO d,mN d,mH d])))
theorem wt2_round(d:Zf):Yo P (Zp P [] [] ze) 39 10 4 4 103 [0,2,49,50,51] [(0,.own),(1,.own),(2,.own),(3,.own)] [] (Zd5 d) (Zd6 d) (λi=>(bif decide (i<((d.a.n11:Nat):Int))then za else ze)) (.exit 2) (wt2_R d):=λB i z=>by kernel_rfl
def ZjL(d:Zf)(k:Nat):Bool:=(wt2_R d k ()).early
abbrev wt2_ets(d:Zf)(i:Int)(z:Unit):V:=(.cons (zV ze 0 0 0 0) (.cons (zC ze za) (.cons (zl za 3 d.a.n11 λjj=>Zx za (d.a.r11 jj)) (.cons (zn za .i64 ((d.a.n11:Nat):Int)) (.cons .junk .nil)))))
def Zhz(d:Zf):Lp:=lpL 39 10 4 4 103 [0,2,49,50,51] [(0,.own),(1,.own),(2,.own),(3,.own)] [] (Zd5 d) (Zd6 d) (.exit 2) .ret () (λ_=>()) (ZjL d) (Za.n11 (Zf.a d)) (wt2_ets d) (Zd6 d)
def wt2_need(d:Zf):Prop:=YW 4 [] (Zd5 d) (Zd6 d) () (Zd5 d (0:Nat) ()) (Zd6 d (0:Nat) ())
theorem wt2_fit(d:Zf):wt2_need d:=⟨rfl,⟨rfl,⟨rfl,λ_=>⟨rfl,rfl⟩⟩,⟨rfl,λ_=>⟨rfl,rfl⟩⟩,⟨rfl,λ_=>⟨rfl,rfl⟩⟩,trivial⟩⟩
theorem wt2_lp_ok(d:Zf)(hl:d.a.n11<=1000)(hO:∀j:Int,d.oh j=ze->0<=d.og j/\d.og j<d.a.n6):(Zhz d).Ok P:=by
 refine Xg (ZC hm hn (l:=[]) trivial (ls:=[]) trivial ze) rfl (by kernel_rfl) (wt2_round d) exN YK (λ_=>rfl) (step:=λ_ z=>z) (rd:=(λ_ t y=>())) (λi z=>rfl) (λi=>rfl) rfl (λi hlt hg=>?_) (λi z hi=>?_)
 ·have hltI:(i:Int)<(((Za.n11 (Zf.a d)):Nat):Int):=by omega
  refine⟨?_,⟨λhb0=>trivial,λhb0=>trivial⟩⟩
  all_goals(repeat'(first|exact rfl|exact λ_=>⟨rfl,rfl⟩|apply zB|intro _))
  all_goals(try simp only[decide_eq_true_eq,decide_eq_false_iff_not,yj,yu]at*)
  all_goals(try simp(disch:=omega) only[IntWalk.i64_in])
  all_goals(first|omega|exact(Jr ‹_› (hO _)).1|exact(Jr ‹_› (hO _)).2)
 ·have hw:=(IntWalk.i64_in ((i:Int)+1) ⟨by omega,by omega⟩)
  refine⟨?_,?_⟩
  all_goals(first|exact⟨rfl,YL (ts:=Zd5 d) (a:=()) hw rfl,Yg _⟩|exact⟨rfl,rfl,(by repeat'(first|exact Le.refl _|exact Le.junk _ rfl|apply Le.cons)),Yg _⟩)
abbrev ZdX(d:Zf)(b:Int)(x:YD)(i:Int)(z:Unit):V:=(.cons (.rsl za 5 (Za.n8 (Zf.a d)) (λj=>ZI za ((Zf.a d).r8 j))) (.cons (.fn (Fn.func (117:Nat)) .nil (.cons (.ptr ze (4:Nat) (0:Nat) (0:Nat) (0:Nat)) (.cons (.ptr ze (5:Nat) (0:Nat) (0:Nat) (0:Nat)) .nil))) (.cons (.int ze .i64 0) (.cons (.int za .i64 (((Za.n8 (Zf.a d)):Nat):Int)) (.cons (.int za .i64 i) .nil)))))
abbrev ZdY(d:Zf)(b:Int)(x:YD)(i:Int)(z:Unit):List Blk:=[.var (YB d.a),mO d,mN d,mH d,.var (.cons (.int za .i64 (b)) .nil),.var (.cons (.int za .i64 (YD.f0 x)) (.cons (.int za .i64 (YD.f1 x)) (.cons (.int za .u32 (YD.f2 x)) (.cons (.int za .i64 (YD.f3 x)) .nil))))]
def th1_R(d:Zf)(b:Int)(x:YD)(i:Int)(z:Unit):Tree Rd:=
 let q5:=(zl za 5 d.a.n8 λjj=>ZI za (d.a.r8 jj))
 let q3:=(V.fn (Fn.func (117:Nat)) zh (zf (pt 4) (zf (pt 5) zh)))
 let q2:=[zN (YB d.a),mO d,mN d,mH d,zN (ci b zh),zN (XC za x)]
 let q0:=(zx (Ex.normal,ze,zf q5 (zf q3 (zf (zn ze .i64 (0:Int)) (ci ((d.a.n8:Nat):Int) (ci (zy .i64 (i+(1:Int))) zh)))),q2))
 let q4:=((d.a.r8 (zi i)).f0-(1:Int))
 let q1:=(zy .u32 ((yA (zU (zR .u32) (Int.fdiv x.f2 ((2:Int)^min (zi (zy .i64 q4)) (zR .u32)))&&& zU (zR .u32) (1:Int)):Nat):Int)>(0:Int))
 zw ((0:Int)<=i/\i<((d.a.n8:Nat):Int)) (zD (bif bif (d.a.r8 (zi i)).f1 != b then ze else !(d.a.r8 (zi i)).b3 then ze else za) q0 (zw (((x.f0==(2:Int))=ze->(!(d.a.r8 (zi i)).b4)=za->(x.f0==(3:Int))=ze->(0:Int)<=zy .i64 q4)/\((x.f0==(2:Int))=za->(x.f0==(3:Int))=ze->(0:Int)<=zy .i64 q4)) (zD (bif bif x.f0==(2:Int)then bif !(d.a.r8 (zi i)).b4 then ze else bif x.f0==(3:Int)then decide q1 else za else bif x.f0==(3:Int)then decide q1 else za then ze else za) (zx (Ex.ret,ze,zf q5 (zf q3 (ci i (ci ((d.a.n8:Nat):Int) (ci i zh)))),q2)) q0)))
theorem th1_round(d:Zf)(b:Int)(x:YD):Yo P (Zp P [] [] ze) 168 2 6 6 19 [0,1,4,7,8] [(0,.own),(1,.own),(2,.own),(3,.own),(4,.own),(5,.own)] [] (ZdX d b x) (ZdY d b x) (λi=>(bif decide (i<((d.a.n8:Nat):Int))then za else ze)) (.exit 0) (th1_R d b x):=λB i z=>by kernel_rfl
def ZjD(d:Zf)(b:Int)(x:YD)(k:Nat):Bool:=(th1_R d b x k ()).early
abbrev th1_ets(d:Zf)(b:Int)(x:YD)(i:Int)(z:Unit):V:=(.cons (zl za 5 d.a.n8 λjj=>ZI za (d.a.r8 jj)) (.cons (V.fn (Fn.func (117:Nat)) zh (zf (zV ze 4 0 0 0) (zf (zV ze 5 0 0 0) zh))) (.cons (zn za .i64 i) (.cons (zn za .i64 ((d.a.n8:Nat):Int)) (.cons .junk .nil)))))
def Zhm(d:Zf)(b:Int)(x:YD):Lp:=lpL 168 2 6 6 19 [0,1,4,7,8] [(0,.own),(1,.own),(2,.own),(3,.own),(4,.own),(5,.own)] [] (ZdX d b x) (ZdY d b x) (.exit 0) .ret () (λ_=>()) (ZjD d b x) (Za.n8 (Zf.a d)) (th1_ets d b x) (ZdY d b x)
def th1_need(d:Zf)(b:Int)(x:YD):Prop:=YW 6 [] (ZdX d b x) (ZdY d b x) () (ZdX d b x (0:Nat) ()) (ZdY d b x (0:Nat) ())
theorem th1_fit(d:Zf)(b:Int)(x:YD):th1_need d b x:=⟨rfl,⟨rfl,⟨rfl,λ_=>⟨rfl,rfl⟩⟩,⟨rfl,λ_=>⟨rfl,rfl⟩⟩,⟨rfl,λ_=>⟨rfl,rfl⟩⟩,rfl,rfl,trivial⟩⟩
theorem th1_lp_ok(d:Zf)(b:Int)(x:YD)(hl:d.a.n8<=1000)(hN:∀j:Nat,j<d.a.n8->1<=(d.a.r8 j).f0/\(d.a.r8 j).f0<=32):(Zhm d b x).Ok P:=by
 refine Xg (ZC hm hn (l:=[]) trivial (ls:=[]) trivial ze) rfl (by kernel_rfl) (th1_round d b x) exN YK (λ_=>rfl) (step:=λ_ z=>z) (rd:=(λ_ t y=>())) (λi z=>rfl) (λi=>rfl) rfl (λi hlt hg=>?_) (λi z hi=>?_)
 ·have hltI:(i:Int)<(((Za.n8 (Zf.a d)):Nat):Int):=by omega
  refine⟨?_,⟨λhb0=>trivial,λhb0=>⟨?_,⟨λhb1=>trivial,λhb1=>trivial⟩⟩⟩⟩
  all_goals(have hf0:=hN ((i:Int).toNat) (by omega))
  all_goals(repeat'(first|exact rfl|exact λ_=>⟨rfl,rfl⟩|apply zB|intro _))
  all_goals(try simp only[decide_eq_true_eq,decide_eq_false_iff_not,yj,yu]at*)
  all_goals(try simp(disch:=omega) only[IntWalk.i64_in])
  all_goals(first|omega)
 ·have hw:=(IntWalk.i64_in ((i:Int)+1) ⟨by omega,by omega⟩)
  refine⟨?_,⟨?_,?_⟩⟩
  all_goals(first|exact⟨rfl,YL (ts:=ZdX d b x) (a:=()) hw rfl,Yg _⟩|exact⟨rfl,rfl,(by repeat'(first|exact Le.refl _|exact Le.junk _ rfl|apply Le.cons)),Yg _⟩)
def vThere_T(d:Zf)(b:Int)(x:YD):Tree (V×List Blk):=
 let q3:=(zl za 5 d.a.n8 λj=>ZI za (d.a.r8 j))
 let q0:=(zf (zl za 2 d.a.n1 λj=>ZR za (d.a.r1 j)) (zf (zl za 1 d.a.n2 λj=>zf (zn za .u32 (d.a.r2 j).f0) zh) (zf (zl za 4 d.a.n3 λj=>Zr za (d.a.r3 j)) (zf (zl za 4 d.a.n4 λj=>Zn za (d.a.r4 j)) (zf (zl za 2 d.a.n5 λj=>Zw za (d.a.r5 j)) (zf (zl za 11 d.a.n6 λj=>Zo za (d.a.r6 j)) (zf (zl za 2 d.a.n7 λj=>ZO za (d.a.r7 j)) (zf q3 (ci d.a.f9 (zf (zl za 2 d.a.n10 λj=>ZE za (d.a.r10 j)) (zf (zl za 3 d.a.n11 λj=>Zx za (d.a.r11 j)) (zf (zl za 2 d.a.n12 λj=>Zt za (d.a.r12 j)) (zf (zn za .u64 d.a.f13) (zf (zZ 1) (zf (zZ 2) (zf (zZ 3) zh))))))))))))))))
 let q1:=[zN (YB d.a),Blk.Zm (MK.int .i64) za (λk=>(d.2 (Zb k),vi (d.3 (Zb k)))) zm,Blk.Zm (MK.int .i64) za (λk=>(d.4 (Zb k),vi (d.5 (Zb k)))) zm,Blk.Zm (MK.int .i64) za (λk=>(d.6 (Zb k),vi (d.7 (Zb k)))) zm]
 let q2:=(zf (V.fn (Fn.func (117:Nat)) zh (zf (zV za 4 0 0 0) (zf (zV za 5 0 0 0) zh))) (ci (0:Int) (ci ((d.a.n8:Nat):Int) (ci (0:Int) zh))))
 zw (zf q3 q2=zf q3 q2/\ci d.a.f0 q0=ci d.a.f0 q0/\(zq=zq/\YR .i64 (λx=>(d.2 (Zb x),vi (d.3 (Zb x)))) λk=>(d.2 (Zb k),vi (d.3 (Zb k))))/\(zq=zq/\YR .i64 (λx=>(d.4 (Zb x),vi (d.5 (Zb x)))) λk=>(d.4 (Zb k),vi (d.5 (Zb k))))/\(zq=zq/\YR .i64 (λx=>(d.6 (Zb x),vi (d.7 (Zb x)))) λk=>(d.6 (Zb k),vi (d.7 (Zb k))))/\ci b zh=ci b zh/\XC za x=XC za x/\True) (zD (bif Zv (ZjD d b x) d.a.n8 then ze else za) (zx (zC za ze,q1)) (zx (zC ze za,q1)))
theorem Zr3(d:Zf)(b:Int)(x:YD):evH (Zp P [] [Zhm d b x] ze) 400 72 (.cons (.ptr ze 0 0 0 0) (.cons (.int za .i64 b) (.cons (.agg (XC za x)) .nil))) (YA d)=vThere_T d b x:=by kernel_rfl
def Zht(d:Zf)(b:Int)(x:YD):Bool:=
  (bif bif Zv (ZjD d b x) d.a.n8 then ze else za then(ze)else(za))
theorem vThere_at(d:Zf)(b:Int)(x:YD)(h0:d.a.n8<=1000)(h1:∀j:Nat,j<d.a.n8->1<=(d.a.r8 j).f0/\(d.a.r8 j).f0<=32):YG P 72 (.cons (.ptr ze 0 0 0 0) (.cons (.int za .i64 b) (.cons (.agg (XC za x)) .nil))) (YA d) (.leaf (.bool za (Zht d b x),YA d)):=by
 refine G8 (E:=(Zp P [] [Zhm d b x] ze)) (ZC hm hn (l:=[]) trivial (ls:=[Zhm d b x]) ⟨th1_lp_ok d b x h0 h1,trivial⟩ ze) (Zr3 d b x) ((cC rfl rfl)) ⟨⟨rfl,rfl⟩,⟨rfl,rfl⟩⟩ ?_
 refine⟨?_,⟨λhb0=>trivial,λhb0=>trivial⟩⟩
 all_goals((repeat'(first|exact th1_fit d b x|exact rfl|exact λ_=>⟨rfl,rfl⟩|apply zB|intro _));all_goals(try simp only[decide_eq_true_eq,decide_eq_false_iff_not]at*);all_goals(first|omega|exact th1_fit d b x))
def Zav:HK:=λargs bl=>match args,bl with
 |(.cons (.ptr ze 0 0 0 0) (.cons (.int _ .i64 b) (.cons (.agg cx) .nil))),[.var c,.Zm (.int .i64) _ fo _,.Zm (.int .i64) _ fn _,.Zm (.int .i64) _ fh _]=>zk (c.Jj λc=>cx.Jj λcx=>.need (UZ c fo fn fh/\(zH cx).soft=.agg (XC za (QB cx))/\(λ(d:Zf)(b:Int)(x:YD)=>d.a.n8<=1000/\(∀j:Nat,j<d.a.n8->1<=(d.a.r8 j).f0/\(d.a.r8 j).f0<=32)) (XF c fo fn fh) (b) (QB cx)) (.leaf (.bool za (Zht (XF c fo fn fh) (b) (QB cx)),YA (XF c fo fn fh))))
 |_,_=>zm
theorem ZmQ:Xj P 72 Zav:=by
 intro args bl T hT
 unfold Zav at hT
 split at hT
 ·rename_i q0 b cx c q1 fo q2 q3 fn q4 q5 fh q6
  injection hT with hT
  subst hT
  intro base mm F w xs Q KK h1 h2 hq hk
  simp only[V.JU]at hq
  obtain⟨hp,hq⟩:=hq
  exact YG.le (bl:=[.var c,.Zm (.int .i64) q1 fo q2,.Zm (.int .i64) q3 fn q4,.Zm (.int .i64) q5 fh q6]) (vThere_at (XF c fo fn fh) (b) (QB cx) hp.2.2.1 hp.2.2.2) rfl (λb=>Zaw hp.1 b) base mm F w xs Q KK h1 (RLsoft (a:=(.cons (.ptr ze 0 0 0 0) (.cons (.int q0 .i64 b) (.cons (.agg cx) .nil)))) (b:=(.cons (.ptr ze 0 0 0 0) (.cons (.int za .i64 b) (.cons (.agg (XC za (QB cx))) .nil)))) (show V.soft (.cons (.ptr ze 0 0 0 0) (.cons (.int q0 .i64 b) (.cons (.agg cx) .nil)))=V.soft (.cons (.ptr ze 0 0 0 0) (.cons (.int za .i64 b) (.cons (.agg (XC za (QB cx))) .nil)))from(congrArg (λz=>(zf (zV za 0 0 0 0) (zf (zn za .i64 b) (zf (z) zh)))) hp.2.1)) h2) hq hk
 ·cases hT
def vSleeps_T(a:Xt)(b:Int):Tree V:=
 let q3:=(zl za 2 a.n1 λj=>ZE za (a.3 j))
 let q0:=(ci a.f0 (zf q3 (zf (zl za 3 a.n2 λj=>Zx za (a.5 j)) zh)))
 let q1:=(ci a.f0 (zf q3 zh))
 let q2:=(zy .i64 (zy .i64 ((16:Int)+b)-(1:Int)))
 zw (zf (zH q0) zh=zf (zH q0) zh/\a.n1<=(1000:Nat)/\a.n2<=(1000:Nat)) (zD (bif bif Zas (Qm q0) != (0:Int)then ze else !bif decide (b>=(1:Int))then decide (b<=(16:Int))else za then ze else za) (zx (V.tup (zf (zn ze .i64 (0:Int)) (zf (zC ze za) zh)))) (zw (zf (zH q1) (ci q2 zh)=zf (zH q1) (ci q2 zh)/\a.n1<=(1000:Nat)) (zx (V.tup (ci (Zhv (Z5 q1) q2) (zf (zC za (Ym (Z5 q1) q2)) zh))))))
theorem Zr2(a:Xt)(b:Int):ZU (Zp P [ZaP,Zcu] [] ze) 400 71 (.cons (.agg (ZaW za a)) (.cons (.int za .i64 b) .nil))=vSleeps_T a b:=by kernel_rfl
def Zhr(a:Xt)(b:Int):Int:=
  (bif bif bif Zas (Qm (zf (zn za .i64 a.f0) (zf (zl za 2 a.n1 λj=>ZE za (a.3 j)) (zf (zl za 3 a.n2 λj=>
  Zx za (a.5 j)) zh)))) != (0:Int)then ze else !bif decide (b>=(1:Int))then decide (b<=(16:Int))else za then ze else za then(0:Int)else
  Zhv (Z5 (zf (zn za .i64 a.f0) (zf (zl za 2 a.n1 λj=>ZE za (a.3 j)) zh))) (zy .i64 (zy .i64 ((16:Int)+
  b)-(1:Int))))
def Zhs(a:Xt)(b:Int):Bool:=
  (bif bif bif Zas (Qm (zf (zn za .i64 a.f0) (zf (zl za 2 a.n1 λj=>ZE za (a.3 j)) (zf (zl za 3 a.n2 λj=>
  Zx za (a.5 j)) zh)))) != (0:Int)then ze else !bif decide (b>=(1:Int))then decide (b<=(16:Int))else za then ze else za then za else
  Ym (Z5 (zf (zn za .i64 a.f0) (zf (zl za 2 a.n1 λj=>ZE za (a.3 j)) zh))) (zy .i64 (zy .i64 ((16:Int)+
  b)-(1:Int))))
theorem Zr1(a:Xt)(b:Int)(h0:a.n1<=1000)(h1:a.n2<=1000):Zi P 71 (.cons (.agg (ZaW za a)) (.cons (.int za .i64 b) .nil)) (.tup (.cons (.int za zq (Zhr a b)) (.cons (.bool za (Zhs a b)) .nil))):=
 Xp (ZC hm hn (l:=[ZaP,Zcu]) ⟨Zkr,Zkw,trivial⟩ (ls:=[]) trivial ze) 400 (Has.of hn Tryz.func71 rfl) (Zr2 a b) (Tree.Pre.mk (by refine⟨?_,⟨λ_=>trivial,λ_=>⟨?_,trivial⟩⟩⟩;all_goals(((repeat'(first|exact rfl|exact λ_=>⟨rfl,rfl⟩|apply zB|intro _));all_goals(try simp only[decide_eq_true_eq,decide_eq_false_iff_not]at*);all_goals omega)))) (by kernel_rfl) (by kernel_rfl)
def ZaQ:Con:=Yh 71 (λx=>(.cons (.agg (ZaW za (Qm x.hd.inner))) (.cons (.int za .i64 x.tl.hd.toInt) .nil))) (λx=>(.tup (.cons (.int za zq (Zhr (Qm x.hd.inner) x.tl.hd.toInt)) (.cons (.bool za (Zhs (Qm x.hd.inner) x.tl.hd.toInt)) .nil)))) (λx=>(Qm x.hd.inner).n1<=1000/\(Qm x.hd.inner).n2<=1000)
theorem Zks:ZaQ.Ok P:=Yi (λx h=>Zr1 _ _ h.1 h.2)
abbrev ZhB(d:Zf)(i:Int)(z:Unit):V:=(.cons (.ptr ze 0 0 0 0) (.cons (.bool ze za) (.cons (.int za .i64 (i+1)) .nil)))
abbrev Zd7(d:Zf)(i:Int)(z:Unit):List Blk:=[.var (YB d.a),mO d,mN d,mH d]
def wt3_R(d:Zf)(i:Int)(z:Unit):Tree Rd:=
 let q12:=(zl za 2 d.a.n10 λj=>ZE za (d.a.r10 j))
 let q13:=(zl za 3 d.a.n11 λj=>Zx za (d.a.r11 j))
 let q0:=(zf (zl za 2 d.a.n1 λj=>ZR za (d.a.r1 j)) (zf (zl za 1 d.a.n2 λj=>zf (zn za .u32 (d.a.r2 j).f0) zh) (zf (zl za 4 d.a.n3 λj=>Zr za (d.a.r3 j)) (zf (zl za 4 d.a.n4 λj=>Zn za (d.a.r4 j)) (zf (zl za 2 d.a.n5 λj=>Zw za (d.a.r5 j)) (zf (zl za 11 d.a.n6 λj=>Zo za (d.a.r6 j)) (zf (zl za 2 d.a.n7 λj=>ZO za (d.a.r7 j)) (zf (zl za 5 d.a.n8 λj=>ZI za (d.a.r8 j)) (ci d.a.f9 (zf q12 (zf q13 (zf (zl za 2 d.a.n12 λj=>Zt za (d.a.r12 j)) (zf (zn za .u64 d.a.f13) (zf (zZ 1) (zf (zZ 2) (zf (zZ 3) zh))))))))))))))))
 let q11:=(bif d.2 (i+(1:Int))then d.3 (i+(1:Int))else(0:Int))
 let q1:=(d.a.r6 (zi q11))
 let q2:=(ci d.a.f9 (zf q12 (zf q13 zh)))
 let q10:=(ci (i+(1:Int)) zh)
 let q3:=(zx (Ex.ret,ze,zf (pt 0) (zf (zC ze za) q10),[zN (YB d.a),mO d,mN d,mH d]))
 let q4:=(ci d.a.f0 q0=ci d.a.f0 q0/\(YR .i64 (λx=>(d.2 (Zb x),vi (d.3 (Zb x)))) λk=>(d.2 (Zb k),vi (d.3 (Zb k))))/\(YR .i64 (λx=>(d.4 (Zb x),vi (d.5 (Zb x)))) λk=>(d.4 (Zb k),vi (d.5 (Zb k))))/\YR .i64 (λx=>(d.6 (Zb x),vi (d.7 (Zb x)))) λk=>(d.6 (Zb k),vi (d.7 (Zb k))))
 let q5:=(ci q1.f1 (ci q1.f2 (zf (zn za .u32 q1.f3) (ci q1.f4 zh))))
 let q6:=(zx (Ex.normal,ze,zf (pt 0) (zf (zC ze za) (ci (zy .i64 (i+(1:Int)+(1:Int))) zh)),[zN (YB d.a),mO d,mN d,mH d]))
 let q7:=(zf (zH q2) q10=zf (zH q2) q10/\d.a.n10<=(1000:Nat)/\d.a.n11<=(1000:Nat))
 let q15:=(vi (0:Int))
 let q8:=(zf q15 (zf q15 (zf (zn za .u32 (0:Int)) (zf q15 zh))))
 let q9:=(Zf.mk (Z4 (YB d.a)) (λj=>d.2 j) (λj=>d.3 j) (λj=>d.4 j) (λj=>d.5 j) (λj=>d.6 j) λj=>d.7 j)
 let q14:=(bif q1.f3 != (0:Int)then ze else q1.f4 != (0:Int))
 let q16:=(zn ze .i64 (0:Int))
 zD (bif !d.2 (i+(1:Int))then ze else za) (zw q7 (zD (!Zhs (Qm q2) (i+(1:Int))==za) q3 (zD (Zhr (Qm q2) (i+(1:Int)) != (0:Int)) q3 (zw (q4/\zH q8=zH q8/\d.a.n8<=(1000:Nat)/\∀(j:Nat),j<d.a.n8->(1:Int)<=(d.a.r8 j).f0/\(d.a.r8 j).f0<=(32:Int)) (zD (bif Zht q9 (i+(1:Int)) (QB (zf q16 (zf q16 (zf (zn ze .u32 (0:Int)) (zf q16 zh)))))then ze else za) q3 q6))))) (zw (((0:Int)<=bif d.2 (i+(1:Int))then d.3 (i+(1:Int))else(0:Int))/\q11<((d.a.n6:Nat):Int)) (zw q7 (zD (!Zhs (Qm q2) (i+(1:Int))==bif bif bif bif bif !bif decide (q1.f1>=(0:Int))then bif decide (q1.f1<=(3:Int))then bif decide (q1.f2>=(0:Int))then bif decide (q1.f2<=(15:Int))then bif decide (q1.f4>=(0:Int))then decide (q1.f4<=(1125899906842624:Int))else za else za else za else za else za then ze else !q14==(q1.f1==(3:Int))then ze else za then ze else q1.f4==(0:Int)then ze else za then za else ze) q3 (zD (Zhr (Qm q2) (i+(1:Int)) != bif bif bif bif bif !bif decide (q1.f1>=(0:Int))then bif decide (q1.f1<=(3:Int))then bif decide (q1.f2>=(0:Int))then bif decide (q1.f2<=(15:Int))then bif decide (q1.f4>=(0:Int))then decide (q1.f4<=(1125899906842624:Int))else za else za else za else za else za then ze else !q14==(q1.f1==(3:Int))then ze else za then ze else q1.f4==(0:Int)then ze else za then(0:Int)else q1.f4) q3 (zw (q4/\zH q5=zH q5/\d.a.n8<=(1000:Nat)/\∀(j:Nat),j<d.a.n8->(1:Int)<=(d.a.r8 j).f0/\(d.a.r8 j).f0<=(32:Int)) (zD (bif Zht q9 (i+(1:Int)) (QB q5)then ze else za) q3 q6))))))
theorem wt3_round(d:Zf):Yo P { (Zp P [ZaT,ZaQ] [] ze)with hk:=Wx [⟨72,Zav⟩] } 39 16 4 4 103 [0,2,7] [(0,.own),(1,.own),(2,.own),(3,.own)] [] (ZhB d) (Zd7 d) (λi=>(bif decide (i+(1:Int)<=(16:Int))then za else ze)) (.exit 4) (wt3_R d):=λB i z=>by kernel_rfl
def ZjM(d:Zf)(k:Nat):Bool:=(wt3_R d k ()).early
abbrev wt3_ets(d:Zf)(i:Int)(z:Unit):V:=(.cons (zV ze 0 0 0 0) (.cons (zC ze za) (.cons .junk .nil)))
def ZhA(d:Zf):Lp:=lpL 39 16 4 4 103 [0,2,7] [(0,.own),(1,.own),(2,.own),(3,.own)] [] (ZhB d) (Zd7 d) (.exit 4) .ret () (λ_=>()) (ZjM d) (17-1) (wt3_ets d) (Zd7 d)
def wt3_need(d:Zf):Prop:=YW 4 [] (ZhB d) (Zd7 d) () (ZhB d (0:Nat) ()) (Zd7 d (0:Nat) ())
theorem wt3_fit(d:Zf):wt3_need d:=⟨rfl,⟨rfl,⟨rfl,λ_=>⟨rfl,rfl⟩⟩,⟨rfl,λ_=>⟨rfl,rfl⟩⟩,⟨rfl,λ_=>⟨rfl,rfl⟩⟩,trivial⟩⟩
theorem wt3_lp_ok(d:Zf)(hl:d.a.n8<=1000)(hl10:d.a.n10<=1000)(hl11:d.a.n11<=1000)(hO:∀j:Int,d.oh j=ze->0<=d.og j/\d.og j<d.a.n6)(hN:∀j:Nat,j<d.a.n8->1<=(d.a.r8 j).f0/\(d.a.r8 j).f0<=32):(ZhA d).Ok P:=by
 refine Xg ((ZC hm hn (l:=[ZaT,ZaQ]) ⟨Zku,Zks,trivial⟩ (ls:=[]) trivial ze).KJ (l:=[⟨72,Zav⟩]) ⟨ZmQ,trivial⟩) rfl (by kernel_rfl) (wt3_round d) exN (hcBy (q:=λi:Int=>(i:Int)+1<=16) λi hi=>⟨λh=>(by have h2:(i:Int)+1<=16:=h;omega),λ_=>(by show(i:Int)+1<=16;omega)⟩) (λ_=>rfl) (step:=λ_ z=>z) (rd:=(λ_ t y=>())) (λi z=>rfl) (λi=>rfl) rfl (λi hlt hg=>?_) (λi z hi=>?_)
 ·have hltI:(i:Int)+1<((17:Nat):Int):=by omega
  refine⟨λhb0=>⟨?_,⟨λhb1=>trivial,λhb1=>⟨λhb2=>trivial,λhb2=>⟨?_,⟨λhb3=>trivial,λhb3=>trivial⟩⟩⟩⟩⟩,λhb0=>⟨?_,⟨?_,⟨λhb1=>trivial,λhb1=>⟨λhb2=>trivial,λhb2=>⟨?_,⟨λhb3=>trivial,λhb3=>trivial⟩⟩⟩⟩⟩⟩⟩
  all_goals(repeat'(first|exact rfl|exact λ_=>⟨rfl,rfl⟩|apply zB|intro _))
  all_goals(try simp only[decide_eq_true_eq,decide_eq_false_iff_not,yj,yu]at*)
  all_goals(try simp(disch:=omega) only[IntWalk.i64_in])
  all_goals(first|omega|exact(Jr ‹_› (hO _)).1|exact(Jr ‹_› (hO _)).2|exact hN|exact(hN _ (by assumption)).1|exact(hN _ (by assumption)).2)
 ·have hw:=(IntWalk.i64_in (((i:Int)+1)+1) ⟨by omega,by omega⟩)
  refine⟨⟨?_,⟨?_,⟨?_,?_⟩⟩⟩,⟨?_,⟨?_,⟨?_,?_⟩⟩⟩⟩
  all_goals(first|(rw[hw];exact⟨rfl,Le.soft rfl,Yg _⟩)|exact⟨rfl,rfl,(by repeat'(first|exact Le.refl _|exact Le.junk _ rfl|apply Le.cons)),Yg _⟩)
def vWaited_T(d:Zf):Tree (V×List Blk):=
 let q11:=(zl za 5 d.a.n8 λj=>ZI za (d.a.r8 j))
 let q10:=(zl za 3 d.a.n11 λj=>Zx za (d.a.r11 j))
 let q0:=(zf (zl za 2 d.a.n1 λj=>ZR za (d.a.r1 j)) (zf (zl za 1 d.a.n2 λj=>zf (zn za .u32 (d.a.r2 j).f0) zh) (zf (zl za 4 d.a.n3 λj=>Zr za (d.a.r3 j)) (zf (zl za 4 d.a.n4 λj=>Zn za (d.a.r4 j)) (zf (zl za 2 d.a.n5 λj=>Zw za (d.a.r5 j)) (zf (zl za 11 d.a.n6 λj=>Zo za (d.a.r6 j)) (zf (zl za 2 d.a.n7 λj=>ZO za (d.a.r7 j)) (zf q11 (ci d.a.f9 (zf (zl za 2 d.a.n10 λj=>ZE za (d.a.r10 j)) (zf q10 (zf (zl za 2 d.a.n12 λj=>Zt za (d.a.r12 j)) (zf (zn za .u64 d.a.f13) (zf (zZ 1) (zf (zZ 2) (zf (zZ 3) zh))))))))))))))))
 let q1:=[zN (YB d.a),Blk.Zm (MK.int .i64) za (λk=>(d.2 (Zb k),vi (d.3 (Zb k)))) zm,Blk.Zm (MK.int .i64) za (λk=>(d.4 (Zb k),vi (d.5 (Zb k)))) zm,Blk.Zm (MK.int .i64) za (λk=>(d.6 (Zb k),vi (d.7 (Zb k)))) zm]
 let q2:=(zq=zq/\YR .i64 (λx=>(d.2 (Zb x),vi (d.3 (Zb x)))) λk=>(d.2 (Zb k),vi (d.3 (Zb k))))
 let q3:=(zq=zq/\YR .i64 (λx=>(d.4 (Zb x),vi (d.5 (Zb x)))) λk=>(d.4 (Zb k),vi (d.5 (Zb k))))
 let q4:=(zq=zq/\YR .i64 (λx=>(d.6 (Zb x),vi (d.7 (Zb x)))) λk=>(d.6 (Zb k),vi (d.7 (Zb k))))
 let q5:=(zf (zC za za) (zf q10 (ci ((d.a.n11:Nat):Int) (ci (0:Int) zh))))
 let q6:=(zf (zC za za) (zf q11 (ci ((d.a.n8:Nat):Int) (ci (0:Int) zh))))
 let q7:=(vi d.a.f0)
 let q8:=(zx (zC ze za,q1))
 let q9:=(zf (zC za za) (ci (1:Int) zh))
 zD (bif d.a.f9 != d.a.f0 then ze else za) q8 (zw (zf (zV za 0 0 0 0) q6=zf (zV za 0 0 0 0) q6/\zf q7 q0=zf q7 q0/\q2/\q3/\q4/\True) (zD (bif Zv (ZjK d) d.a.n8 then ze else za) q8 (zw (zf (zV za 0 0 0 0) q5=zf (zV za 0 0 0 0) q5/\zf q7 q0=zf q7 q0/\q2/\q3/\q4/\True) (zD (bif Zv (ZjL d) d.a.n11 then ze else za) q8 (zw (zf (zV za 0 0 0 0) q9=zf (zV za 0 0 0 0) q9/\zf q7 q0=zf q7 q0/\q2/\q3/\q4/\True) (zD (bif Zv (ZjM d) ((17:Nat)-(1:Nat))then ze else za) q8 (zx (zC ze ze,q1))))))))
theorem Zr6(d:Zf):evH { (Zp P [ZaT,ZaQ] [Zhy d,Zhz d,ZhA d] ze)with hk:=Wx [⟨72,Zav⟩] } 400 39 (.cons (.ptr ze 0 0 0 0) .nil) (YA d)=vWaited_T d:=by kernel_rfl
def Vt(d:Zf):Bool:=
  (bif bif d.a.f9 != d.a.f0 then ze else za then(za)else(bif bif Zv (ZjK d) d.a.n8 then ze else za then(za)else(bif bif Zv (ZjL d) d.a.n11
  then ze else za then(za)else(bif bif Zv (ZjM d) ((17:Nat)-(1:Nat))then ze else za then(za)else(ze)))))
theorem Zr4(d:Zf)(h0:d.a.n8<=1000)(h1:d.a.n10<=1000)(h2:d.a.n11<=1000)(h3:∀j:Int,d.oh j=ze->0<=d.og j/\d.og j<d.a.n6)(h4:∀j:Nat,j<d.a.n8->1<=(d.a.r8 j).f0/\(d.a.r8 j).f0<=32):YG P 39 (.cons (.ptr ze 0 0 0 0) .nil) (YA d) (.leaf (.bool za (Vt d),YA d)):=by
 refine G8 (E:={ (Zp P [ZaT,ZaQ] [Zhy d,Zhz d,ZhA d] ze)with hk:=Wx [⟨72,Zav⟩] }) ((ZC hm hn (l:=[ZaT,ZaQ]) ⟨Zku,Zks,trivial⟩ (ls:=[Zhy d,Zhz d,ZhA d]) ⟨wt1_lp_ok d h0 h3,wt2_lp_ok d h2 h3,wt3_lp_ok d h0 h1 h2 h3 h4,trivial⟩ ze).KJ (l:=[⟨72,Zav⟩]) ⟨ZmQ,trivial⟩) (Zr6 d) ((cC rfl (cC rfl (cC rfl (cC rfl rfl))))) ⟨⟨rfl,rfl⟩,⟨⟨rfl,rfl⟩,⟨⟨rfl,rfl⟩,⟨⟨rfl,rfl⟩,⟨rfl,rfl⟩⟩⟩⟩⟩ ?_
 refine⟨λhb0=>trivial,λhb0=>⟨?_,⟨λhb1=>trivial,λhb1=>⟨?_,⟨λhb2=>trivial,λhb2=>⟨?_,⟨λhb3=>trivial,λhb3=>trivial⟩⟩⟩⟩⟩⟩⟩
 all_goals((repeat'(first|exact wt1_fit d|exact wt2_fit d|exact wt3_fit d|exact rfl|exact λ_=>⟨rfl,rfl⟩|apply zB|intro _));all_goals(try simp only[decide_eq_true_eq,decide_eq_false_iff_not]at*);all_goals(first|omega|exact wt1_fit d|exact wt2_fit d|exact wt3_fit d))
def ZbX:HK:=λargs bl=>match args,bl with
 |(.cons (.ptr ze 0 0 0 0) .nil),[.var c,.Zm (.int .i64) _ fo _,.Zm (.int .i64) _ fn _,.Zm (.int .i64) _ fh _]=>zk (c.Jj λc=>.need (UZ c fo fn fh/\(λ(d:Zf)=>d.a.n8<=1000/\d.a.n10<=1000/\d.a.n11<=1000/\(∀j:Int,d.oh j=ze->0<=d.og j/\d.og j<d.a.n6)/\(∀j:Nat,j<d.a.n8->1<=(d.a.r8 j).f0/\(d.a.r8 j).f0<=32)) (XF c fo fn fh)) (.leaf (.bool za (Vt (XF c fo fn fh)),YA (XF c fo fn fh))))
 |_,_=>zm
theorem Zr5:Xj P 39 ZbX:=by
 intro args bl T hT
 unfold ZbX at hT
 split at hT
 ·rename_i c q1 fo q2 q3 fn q4 q5 fh q6
  injection hT with hT
  subst hT
  intro base mm F w xs Q KK h1 h2 hq hk
  simp only[V.JU]at hq
  obtain⟨hp,hq⟩:=hq
  exact YG.le (bl:=[.var c,.Zm (.int .i64) q1 fo q2,.Zm (.int .i64) q3 fn q4,.Zm (.int .i64) q5 fh q6]) (Zr4 (XF c fo fn fh) hp.2.1 hp.2.2.1 hp.2.2.2.1 hp.2.2.2.2.1 hp.2.2.2.2.2) rfl (λb=>Zaw hp.1 b) base mm F w xs Q KK h1 h2 hq hk
 ·cases hT
abbrev ZdC(d:Zf)(i:Int)(z:Int):V:=(.cons (.ptr ze 0 0 0 0) (.cons (.bool ze za) (.cons (.int za .i64 (z)) (.cons (.rsl za 2 (Za.n12 (Zf.a d)) (λj=>Zt za ((Zf.a d).r12 j))) (.cons (.int za .i64 (((Za.n12 (Zf.a d)):Nat):Int)) (.cons (.int za .i64 i) .nil))))))
abbrev ZdD(d:Zf)(i:Int)(z:Int):List Blk:=[.var (YB d.a),mO d,mN d,mH d]
def pl1_R(d:Zf)(i:Int)(z:Int):Tree Rd:=
 let q7:=(zl za 2 d.a.n12 λjj=>Zt za (d.a.r12 jj))
 let q0:=(zx (Ex.ret,ze,zf (pt 0) (zf (zC ze za) (ci z (zf q7 (ci ((d.a.n12:Nat):Int) (ci i zh))))),[zN (YB d.a),mO d,mN d,mH d]))
 let q6:=(bif d.2 (d.a.r12 (zi i)).f0 then d.3 (d.a.r12 (zi i)).f0 else(0:Int))
 let q1:=(d.a.r6 (zi q6))
 let q2:=(bif d.6 (d.a.r12 (zi i)).f0 then d.7 (d.a.r12 (zi i)).f0 else(0:Int))
 let q3:=(zf (zl za 4 d.a.n3 λj=>Zr za (d.a.r3 j)) (zf (zl za 4 d.a.n4 λj=>Zn za (d.a.r4 j)) zh))
 let q4:=(zx (Ex.normal,ze,zf (pt 0) (zf (zC ze za) (ci (d.a.r12 (zi i)).f1 (zf q7 (ci ((d.a.n12:Nat):Int) (ci (zy .i64 (i+(1:Int))) zh))))),[zN (YB d.a),mO d,mN d,mH d]))
 let q5:=(zy .u32 ((yA (zU (zR .u32) (X4 (ZH q3) (d.a.r12 (zi i)).f0)&&& zU (zR .u32) (d.a.r2 (zi (d.a.r3 (zi q2)).f3)).f0):Nat):Int))
 let q8:=(ci (d.a.r12 (zi i)).f0 zh)
 zw ((0:Int)<=i/\i<((d.a.n12:Nat):Int)) (zD (decide ((d.a.r12 (zi i)).f1<=z)) q0 (zD ((bif d.4 (d.a.r12 (zi i)).f0 then d.5 (d.a.r12 (zi i)).f0 else(0:Int)) != (d.a.r12 (zi i)).f1) q0 (zD (bif !d.2 (d.a.r12 (zi i)).f0 then ze else za) q0 (zw (((0:Int)<=bif d.2 (d.a.r12 (zi i)).f0 then d.3 (d.a.r12 (zi i)).f0 else(0:Int))/\q6<((d.a.n6:Nat):Int)) (zD (!bif bif bif !bif decide (q1.f1>=(0:Int))then bif decide (q1.f1<=(3:Int))then bif decide (q1.f2>=(0:Int))then bif decide (q1.f2<=(15:Int))then bif decide (q1.f4>=(0:Int))then decide (q1.f4<=(1125899906842624:Int))else za else za else za else za else za then ze else !(bif q1.f3 != (0:Int)then ze else q1.f4 != (0:Int))==(q1.f1==(3:Int))then ze else za then za else q1.f1==(1:Int)&&(q1.f2==(0:Int)&&(q1.f3==(0:Int)&&(q1.f4==(0:Int)&&ze)))) q0 (zw (((0:Int)<=bif d.6 (d.a.r12 (zi i)).f0 then d.7 (d.a.r12 (zi i)).f0 else(0:Int))/\q2<((d.a.n7:Nat):Int)) (zD (bif bif bif bif bif bif bif decide ((d.a.r7 (zi q2)).f0<(0:Int))then ze else decide ((d.a.r7 (zi q2)).f0>(800:Int))then ze else za then ze else za then ze else za then ze else bif bif bif bif bif decide ((d.a.r7 (zi q2)).f1<(-8000000000:Int))then ze else decide ((d.a.r7 (zi q2)).f1>zy .i64 ((d.a.r7 (zi q2)).f0*(100000000:Int)))then ze else za then ze else za then ze else za then ze else bif (d.a.r7 (zi q2)).f0==(0:Int)then !((d.a.r7 (zi q2)).f0==(0:Int)&&((d.a.r7 (zi q2)).f1==(0:Int)&&ze))else za then ze else za then za else bif decide ((d.a.r7 (zi q2)).f0>(0:Int))then decide ((d.a.r7 (zi q2)).f1<=(0:Int))else za) q0 (zw (zf (zH q3) q8=zf (zH q3) q8/\d.a.n3<=(1000:Nat)/\d.a.n4<=(1000:Nat)) (zw (((0:Int)<=bif d.6 (d.a.r12 (zi i)).f0 then d.7 (d.a.r12 (zi i)).f0 else(0:Int))/\q2<((d.a.n3:Nat):Int)) (zw ((0:Int)<=(d.a.r3 (zi q2)).f3/\(d.a.r3 (zi q2)).f3<((d.a.n2:Nat):Int)) (zD (bif bif decide ((d.a.r12 (zi i)).f1<(0:Int))then ze else decide ((d.a.r12 (zi i)).f1>=(8:Int))then ze else za) (zD (bif !zy .u32 ((yA (zU (zR .u32) q5&&& zU (zR .u32) (0:Int)):Nat):Int) != (0:Int)then ze else za) q0 q4) (zw ((0:Int)<=(d.a.r12 (zi i)).f1) (zD (bif !zy .u32 ((yA (zU (zR .u32) q5&&& zU (zR .u32) (zy .u32 ((1:Int)*(2:Int)^min (zi (d.a.r12 (zi i)).f1) (zR .u32)))):Nat):Int) != (0:Int)then ze else za) q0 q4)))))))))))))
theorem pl1_round(d:Zf):Yo P (Zp P [Ki,ZaI,X9] [] ze) 40 3 4 4 146 [0,2,3,22,23,24] [(0,.own),(1,.own),(2,.own),(3,.own)] [] (ZdC d) (ZdD d) (λi=>(bif decide (i<((d.a.n12:Nat):Int))then za else ze)) (.exit 0) (pl1_R d):=λB i z=>by kernel_rfl
def Zjm(d:Zf)(k:Nat)(z:Int):Int:=(λ(i:Int)(z:Int)=>(bif decide ((d.a.r12 (zi i)).f1<=z)then(z)else(bif (bif d.4 (d.a.r12 (zi i)).f0 then d.5 (d.a.r12 (zi i)).f0 else(0:Int)) != (d.a.r12 (zi i)).f1 then(z)else(bif bif !d.2 (d.a.r12 (zi i)).f0 then ze else za then(z)else(bif !bif bif bif !bif decide ((d.a.r6 (zi (bif d.2 (d.a.r12 (zi i)).f0 then d.3 (d.a.r12 (zi i)).f0 else(0:Int)))).f1>=(0:Int))then bif decide ((d.a.r6 (zi (bif d.2 (d.a.r12 (zi i)).f0 then d.3 (d.a.r12 (zi i)).f0 else(0:Int)))).f1<=(3:Int))then bif decide ((d.a.r6 (zi (bif d.2 (d.a.r12 (zi i)).f0 then d.3 (d.a.r12 (zi i)).f0 else(0:Int)))).f2>=(0:Int))then bif decide ((d.a.r6 (zi (bif d.2 (d.a.r12 (zi i)).f0 then d.3 (d.a.r12 (zi i)).f0 else(0:Int)))).f2<=(15:Int))then bif decide ((d.a.r6 (zi (bif d.2 (d.a.r12 (zi i)).f0 then d.3 (d.a.r12 (zi i)).f0 else(0:Int)))).f4>=(0:Int))then decide ((d.a.r6 (zi (bif d.2 (d.a.r12 (zi i)).f0 then d.3 (d.a.r12 (zi i)).f0 else(0:Int)))).f4<=(1125899906842624:Int))else za else za else za else za else za then ze else !(bif (d.a.r6 (zi (bif d.2 (d.a.r12 (zi i)).f0 then d.3 (d.a.r12 (zi i)).f0 else(0:Int)))).f3 != (0:Int)then ze else(d.a.r6 (zi (bif d.2 (d.a.r12 (zi i)).f0 then d.3 (d.a.r12 (zi i)).f0 else(0:Int)))).f4 != (0:Int))==((d.a.r6 (zi (bif d.2 (d.a.r12 (zi i)).f0 then d.3 (d.a.r12 (zi i)).f0 else(0:Int)))).f1==(3:Int))then ze else za then za else(d.a.r6 (zi (bif d.2 (d.a.r12 (zi i)).f0 then d.3 (d.a.r12 (zi i)).f0 else(0:Int)))).f1==(1:Int)&&((d.a.r6 (zi (bif d.2 (d.a.r12 (zi i)).f0 then d.3 (d.a.r12 (zi i)).f0 else(0:Int)))).f2==(0:Int)&&((d.a.r6 (zi (bif d.2 (d.a.r12 (zi i)).f0 then d.3 (d.a.r12 (zi i)).f0 else(0:Int)))).f3==(0:Int)&&((d.a.r6 (zi (bif d.2 (d.a.r12 (zi i)).f0 then d.3 (d.a.r12 (zi i)).f0 else(0:Int)))).f4==(0:Int)&&ze)))then(z)else(bif bif bif bif bif bif bif bif decide ((d.a.r7 (zi (bif d.6 (d.a.r12 (zi i)).f0 then d.7 (d.a.r12 (zi i)).f0 else(0:Int)))).f0<(0:Int))then ze else decide ((d.a.r7 (zi (bif d.6 (d.a.r12 (zi i)).f0 then d.7 (d.a.r12 (zi i)).f0 else(0:Int)))).f0>(800:Int))then ze else za then ze else za then ze else za then ze else bif bif bif bif bif decide ((d.a.r7 (zi (bif d.6 (d.a.r12 (zi i)).f0 then d.7 (d.a.r12 (zi i)).f0 else(0:Int)))).f1<(-8000000000:Int))then ze else decide ((d.a.r7 (zi (bif d.6 (d.a.r12 (zi i)).f0 then d.7 (d.a.r12 (zi i)).f0 else(0:Int)))).f1>zy .i64 ((d.a.r7 (zi (bif d.6 (d.a.r12 (zi i)).f0 then d.7 (d.a.r12 (zi i)).f0 else(0:Int)))).f0*(100000000:Int)))then ze else za then ze else za then ze else za then ze else bif (d.a.r7 (zi (bif d.6 (d.a.r12 (zi i)).f0 then d.7 (d.a.r12 (zi i)).f0 else(0:Int)))).f0==(0:Int)then !((d.a.r7 (zi (bif d.6 (d.a.r12 (zi i)).f0 then d.7 (d.a.r12 (zi i)).f0 else(0:Int)))).f0==(0:Int)&&((d.a.r7 (zi (bif d.6 (d.a.r12 (zi i)).f0 then d.7 (d.a.r12 (zi i)).f0 else(0:Int)))).f1==(0:Int)&&ze))else za then ze else za then za else bif decide ((d.a.r7 (zi (bif d.6 (d.a.r12 (zi i)).f0 then d.7 (d.a.r12 (zi i)).f0 else(0:Int)))).f0>(0:Int))then decide ((d.a.r7 (zi (bif d.6 (d.a.r12 (zi i)).f0 then d.7 (d.a.r12 (zi i)).f0 else(0:Int)))).f1<=(0:Int))else za then(z)else(bif bif bif decide ((d.a.r12 (zi i)).f1<(0:Int))then ze else decide ((d.a.r12 (zi i)).f1>=(8:Int))then ze else za then(bif bif !zy .u32 ((yA (zU (zR .u32) (zy .u32 ((yA (zU (zR .u32) (X4 (ZH (zf (zl za 4 d.a.n3 λj=>Zr za (d.a.r3 j)) (zf (zl za 4 d.a.n4 λj=>Zn za (d.a.r4 j)) zh))) (d.a.r12 (zi i)).f0)&&& zU (zR .u32) (d.a.r2 (zi (d.a.r3 (zi (bif d.6 (d.a.r12 (zi i)).f0 then d.7 (d.a.r12 (zi i)).f0 else(0:Int)))).f3)).f0):Nat):Int))&&& zU (zR .u32) (0:Int)):Nat):Int) != (0:Int)then ze else za then(z)else((d.a.r12 (zi i)).f1))else(bif bif !zy .u32 ((yA (zU (zR .u32) (zy .u32 ((yA (zU (zR .u32) (X4 (ZH (zf (zl za 4 d.a.n3 λj=>Zr za (d.a.r3 j)) (zf (zl za 4 d.a.n4 λj=>Zn za (d.a.r4 j)) zh))) (d.a.r12 (zi i)).f0)&&& zU (zR .u32) (d.a.r2 (zi (d.a.r3 (zi (bif d.6 (d.a.r12 (zi i)).f0 then d.7 (d.a.r12 (zi i)).f0 else(0:Int)))).f3)).f0):Nat):Int))&&& zU (zR .u32) (zy .u32 ((1:Int)*(2:Int)^min (zi (d.a.r12 (zi i)).f1) (zR .u32)))):Nat):Int) != (0:Int)then ze else za then(z)else((d.a.r12 (zi i)).f1))))))))) k z
def Qe(d:Zf)(k:Nat):Int:=ZQ (-1:Int) (Zjm d) k
def KC(d:Zf)(k:Nat):Bool:=(λ(i:Int)(z:Int)=>(bif decide ((d.a.r12 (zi i)).f1<=z)then ze else(bif (bif d.4 (d.a.r12 (zi i)).f0 then d.5 (d.a.r12 (zi i)).f0 else(0:Int)) != (d.a.r12 (zi i)).f1 then ze else(bif bif !d.2 (d.a.r12 (zi i)).f0 then ze else za then ze else(bif !bif bif bif !bif decide ((d.a.r6 (zi (bif d.2 (d.a.r12 (zi i)).f0 then d.3 (d.a.r12 (zi i)).f0 else(0:Int)))).f1>=(0:Int))then bif decide ((d.a.r6 (zi (bif d.2 (d.a.r12 (zi i)).f0 then d.3 (d.a.r12 (zi i)).f0 else(0:Int)))).f1<=(3:Int))then bif decide ((d.a.r6 (zi (bif d.2 (d.a.r12 (zi i)).f0 then d.3 (d.a.r12 (zi i)).f0 else(0:Int)))).f2>=(0:Int))then bif decide ((d.a.r6 (zi (bif d.2 (d.a.r12 (zi i)).f0 then d.3 (d.a.r12 (zi i)).f0 else(0:Int)))).f2<=(15:Int))then bif decide ((d.a.r6 (zi (bif d.2 (d.a.r12 (zi i)).f0 then d.3 (d.a.r12 (zi i)).f0 else(0:Int)))).f4>=(0:Int))then decide ((d.a.r6 (zi (bif d.2 (d.a.r12 (zi i)).f0 then d.3 (d.a.r12 (zi i)).f0 else(0:Int)))).f4<=(1125899906842624:Int))else za else za else za else za else za then ze else !(bif (d.a.r6 (zi (bif d.2 (d.a.r12 (zi i)).f0 then d.3 (d.a.r12 (zi i)).f0 else(0:Int)))).f3 != (0:Int)then ze else(d.a.r6 (zi (bif d.2 (d.a.r12 (zi i)).f0 then d.3 (d.a.r12 (zi i)).f0 else(0:Int)))).f4 != (0:Int))==((d.a.r6 (zi (bif d.2 (d.a.r12 (zi i)).f0 then d.3 (d.a.r12 (zi i)).f0 else(0:Int)))).f1==(3:Int))then ze else za then za else(d.a.r6 (zi (bif d.2 (d.a.r12 (zi i)).f0 then d.3 (d.a.r12 (zi i)).f0 else(0:Int)))).f1==(1:Int)&&((d.a.r6 (zi (bif d.2 (d.a.r12 (zi i)).f0 then d.3 (d.a.r12 (zi i)).f0 else(0:Int)))).f2==(0:Int)&&((d.a.r6 (zi (bif d.2 (d.a.r12 (zi i)).f0 then d.3 (d.a.r12 (zi i)).f0 else(0:Int)))).f3==(0:Int)&&((d.a.r6 (zi (bif d.2 (d.a.r12 (zi i)).f0 then d.3 (d.a.r12 (zi i)).f0 else(0:Int)))).f4==(0:Int)&&ze)))then ze else(bif bif bif bif bif bif bif bif decide ((d.a.r7 (zi (bif d.6 (d.a.r12 (zi i)).f0 then d.7 (d.a.r12 (zi i)).f0 else(0:Int)))).f0<(0:Int))then ze else decide ((d.a.r7 (zi (bif d.6 (d.a.r12 (zi i)).f0 then d.7 (d.a.r12 (zi i)).f0 else(0:Int)))).f0>(800:Int))then ze else za then ze else za then ze else za then ze else bif bif bif bif bif decide ((d.a.r7 (zi (bif d.6 (d.a.r12 (zi i)).f0 then d.7 (d.a.r12 (zi i)).f0 else(0:Int)))).f1<(-8000000000:Int))then ze else decide ((d.a.r7 (zi (bif d.6 (d.a.r12 (zi i)).f0 then d.7 (d.a.r12 (zi i)).f0 else(0:Int)))).f1>zy .i64 ((d.a.r7 (zi (bif d.6 (d.a.r12 (zi i)).f0 then d.7 (d.a.r12 (zi i)).f0 else(0:Int)))).f0*(100000000:Int)))then ze else za then ze else za then ze else za then ze else bif (d.a.r7 (zi (bif d.6 (d.a.r12 (zi i)).f0 then d.7 (d.a.r12 (zi i)).f0 else(0:Int)))).f0==(0:Int)then !((d.a.r7 (zi (bif d.6 (d.a.r12 (zi i)).f0 then d.7 (d.a.r12 (zi i)).f0 else(0:Int)))).f0==(0:Int)&&((d.a.r7 (zi (bif d.6 (d.a.r12 (zi i)).f0 then d.7 (d.a.r12 (zi i)).f0 else(0:Int)))).f1==(0:Int)&&ze))else za then ze else za then za else bif decide ((d.a.r7 (zi (bif d.6 (d.a.r12 (zi i)).f0 then d.7 (d.a.r12 (zi i)).f0 else(0:Int)))).f0>(0:Int))then decide ((d.a.r7 (zi (bif d.6 (d.a.r12 (zi i)).f0 then d.7 (d.a.r12 (zi i)).f0 else(0:Int)))).f1<=(0:Int))else za then ze else(bif bif bif decide ((d.a.r12 (zi i)).f1<(0:Int))then ze else decide ((d.a.r12 (zi i)).f1>=(8:Int))then ze else za then(bif bif !zy .u32 ((yA (zU (zR .u32) (zy .u32 ((yA (zU (zR .u32) (X4 (ZH (zf (zl za 4 d.a.n3 λj=>Zr za (d.a.r3 j)) (zf (zl za 4 d.a.n4 λj=>Zn za (d.a.r4 j)) zh))) (d.a.r12 (zi i)).f0)&&& zU (zR .u32) (d.a.r2 (zi (d.a.r3 (zi (bif d.6 (d.a.r12 (zi i)).f0 then d.7 (d.a.r12 (zi i)).f0 else(0:Int)))).f3)).f0):Nat):Int))&&& zU (zR .u32) (0:Int)):Nat):Int) != (0:Int)then ze else za then ze else za)else(bif bif !zy .u32 ((yA (zU (zR .u32) (zy .u32 ((yA (zU (zR .u32) (X4 (ZH (zf (zl za 4 d.a.n3 λj=>Zr za (d.a.r3 j)) (zf (zl za 4 d.a.n4 λj=>Zn za (d.a.r4 j)) zh))) (d.a.r12 (zi i)).f0)&&& zU (zR .u32) (d.a.r2 (zi (d.a.r3 (zi (bif d.6 (d.a.r12 (zi i)).f0 then d.7 (d.a.r12 (zi i)).f0 else(0:Int)))).f3)).f0):Nat):Int))&&& zU (zR .u32) (zy .u32 ((1:Int)*(2:Int)^min (zi (d.a.r12 (zi i)).f1) (zR .u32)))):Nat):Int) != (0:Int)then ze else za then ze else za)))))))) k (Qe d k)
theorem pl1_ge(d:Zf):∀k:Nat,-1<=Qe d k:=by
 intro k
 induction k with
 |zero=>exact Int.le_refl _
 |succ k ih=>
  show -1<=Zjm d k (Qe d k)
  generalize Qe d k=z at ih⊢
  unfold Zjm
  dsimp only
  by_cases h:(d.a.r12 k).f1<=z
  ·repeat(first|exact ih|(show -1<=(d.a.r12 k).f1;omega)|(refine cT (decide_eq_true h) rfl▸ih)|(rw[decide_eq_true (show(d.a.r12 (zi (k:Int))).f1<=z from h)]))
  ·have hf:-1<=(d.a.r12 k).f1:=by omega
   repeat(first|exact ih|exact hf|refine WI (p:=λy:Int=>-1<=y) ?_ ?_)
abbrev pl1_ets(d:Zf)(i:Int)(z:Int):V:=(.cons (zV ze 0 0 0 0) (.cons (zC ze za) (.cons .junk (.cons (zl za 2 d.a.n12 λjj=>Zt za (d.a.r12 jj)) (.cons (zn za .i64 ((d.a.n12:Nat):Int)) (.cons .junk .nil))))))
def ZgX(d:Zf):Lp:=lpL 40 3 4 4 146 [0,2,3,22,23,24] [(0,.own),(1,.own),(2,.own),(3,.own)] [] (ZdC d) (ZdD d) (.exit 0) .ret (-1:Int) (Qe d) (KC d) (Za.n12 (Zf.a d)) (pl1_ets d) (ZdD d)
def pl1_need(d:Zf):Prop:=YW 4 [] (ZdC d) (ZdD d) (-1:Int) (ZdC d (0:Nat) (-1:Int)) (ZdD d (0:Nat) (-1:Int))
theorem pl1_fit(d:Zf):pl1_need d:=⟨rfl,⟨rfl,⟨rfl,λ_=>⟨rfl,rfl⟩⟩,⟨rfl,λ_=>⟨rfl,rfl⟩⟩,⟨rfl,λ_=>⟨rfl,rfl⟩⟩,trivial⟩⟩
theorem pl1_lp_ok(d:Zf)(hl:d.a.n12<=1000)(hO:∀j:Int,d.oh j=ze->0<=d.og j/\d.og j<d.a.n6)(h64:d.a.n6=d.a.n4)(hl3:d.a.n3<=1000)(hl4:d.a.n4<=1000)(hH:0<d.a.n4->∀j:Int,0<=(bif d.hh j then d.hg j else 0)/\(bif d.hh j then d.hg j else 0)<d.a.n3)(hP:0<d.a.n4->∀j:Int,0<=(d.a.r3 (bif d.hh j then d.hg j else 0).toNat).f3/\(d.a.r3 (bif d.hh j then d.hg j else 0).toNat).f3<d.a.n2)(hD:d.a.n7=d.a.n3):(ZgX d).Ok P:=by
 refine Xg (ZC hm hn (l:=[Ki,ZaI,X9]) ⟨ZaU,Zkc,Vy,trivial⟩ (ls:=[]) trivial ze) rfl (by kernel_rfl) (pl1_round d) exN YK (λ_=>rfl) (rd:=(λ_ t y=>(t.nth 2).toInt)) (λi z=>(cC rfl (cC rfl (cC rfl (cC rfl (cC rfl (cC (cC rfl rfl) (cC rfl rfl)))))))) (λi=>(cC rfl (cC rfl (cC rfl (cC rfl (cC rfl (cC (cC rfl rfl) (cC rfl rfl)))))))) rfl (λi hlt hg=>?_) (λi z hi=>?_)
 ·have hltI:(i:Int)<(((Za.n12 (Zf.a d)):Nat):Int):=by omega
  refine⟨?_,⟨λhb0=>trivial,λhb0=>⟨λhb1=>trivial,λhb1=>⟨λhb2=>trivial,λhb2=>⟨?_,⟨λhb3=>trivial,λhb3=>⟨?_,⟨λhb4=>trivial,λhb4=>⟨?_,⟨?_,⟨?_,⟨λhb5=>⟨λhb6=>trivial,λhb6=>trivial⟩,λhb5=>⟨?_,⟨λhb6=>trivial,λhb6=>trivial⟩⟩⟩⟩⟩⟩⟩⟩⟩⟩⟩⟩⟩⟩
  all_goals(have hf0:=pl1_ge d i)
  all_goals(repeat'(first|exact rfl|exact λ_=>⟨rfl,rfl⟩|apply zB|intro _))
  all_goals(try simp only[decide_eq_true_eq,decide_eq_false_iff_not,yj,yu]at*)
  all_goals(try simp(disch:=omega) only[IntWalk.i64_in])
  all_goals(first|omega|exact(Jr ‹_› (hO _)).1|exact(Jr ‹_› (hO _)).2|exact(hH (by have h2:=Jr ‹_› (hO _);omega) _).1|exact(hH (by have h2:=Jr ‹_› (hO _);omega) _).2|exact(hP (by have h2:=Jr ‹_› (hO _);omega) _).1|exact(hP (by have h2:=Jr ‹_› (hO _);omega) _).2|exact(by rw[hD];exact(hH (by have h2:=Jr ‹_› (hO _);omega) _).2))
 ·have hw:=(IntWalk.i64_in ((i:Int)+1) ⟨by omega,by omega⟩)
  refine⟨?_,⟨?_,⟨?_,⟨?_,⟨?_,⟨⟨?_,?_⟩,⟨?_,?_⟩⟩⟩⟩⟩⟩⟩
  all_goals(first|exact⟨rfl,YL (ts:=ZdC d) hw rfl,Yg _⟩|exact⟨rfl,rfl,(by repeat'(first|exact Le.refl _|exact Le.junk _ rfl|apply Le.cons)),Yg _⟩)
abbrev ZdE(d:Zf)(i:Int)(z:Unit):V:=(.cons (.ptr ze 0 0 0 0) (.cons (.bool ze za) (.cons (.rsl za 11 (Za.n6 (Zf.a d)) (λj=>Zo za ((Zf.a d).r6 j))) (.cons (.int za .i64 (((Za.n6 (Zf.a d)):Nat):Int)) (.cons (.int za .i64 i) .nil)))))
abbrev ZdF(d:Zf)(i:Int)(z:Unit):List Blk:=[.var (YB d.a),mO d,mN d,mH d]
def pl2_R(d:Zf)(i:Int)(z:Unit):Tree Rd:=
 let q0:=(zl za 11 d.a.n6 λjj=>Zo za (d.a.r6 jj))
 zw ((0:Int)<=i/\i<((d.a.n6:Nat):Int)) (zD (bif bif bif !d.4 (d.a.r6 (zi i)).f0 then decide ((d.a.r6 (zi i)).f9>d.a.f0)else za then ze else za then ze else za) (zx (Ex.ret,ze,zf (pt 0) (zf (zC ze za) (zf q0 (ci ((d.a.n6:Nat):Int) (ci i zh)))),[zN (YB d.a),mO d,mN d,mH d])) (zx (Ex.normal,ze,zf (pt 0) (zf (zC ze za) (zf q0 (ci ((d.a.n6:Nat):Int) (ci (zy .i64 (i+(1:Int))) zh)))),[zN (YB d.a),mO d,mN d,mH d])))
theorem pl2_round(d:Zf):Yo P (Zp P [Ki] [] ze) 40 10 4 4 146 [0,2,74,75,76] [(0,.own),(1,.own),(2,.own),(3,.own)] [] (ZdE d) (ZdF d) (λi=>(bif decide (i<((d.a.n6:Nat):Int))then za else ze)) (.exit 2) (pl2_R d):=λB i z=>by kernel_rfl
def Zan(d:Zf)(k:Nat):Bool:=(pl2_R d k ()).early
abbrev pl2_ets(d:Zf)(i:Int)(z:Unit):V:=(.cons (zV ze 0 0 0 0) (.cons (zC ze za) (.cons (zl za 11 d.a.n6 λjj=>Zo za (d.a.r6 jj)) (.cons (zn za .i64 ((d.a.n6:Nat):Int)) (.cons .junk .nil)))))
def ZgY(d:Zf):Lp:=lpL 40 10 4 4 146 [0,2,74,75,76] [(0,.own),(1,.own),(2,.own),(3,.own)] [] (ZdE d) (ZdF d) (.exit 2) .ret () (λ_=>()) (Zan d) (Za.n6 (Zf.a d)) (pl2_ets d) (ZdF d)
def pl2_need(d:Zf):Prop:=YW 4 [] (ZdE d) (ZdF d) () (ZdE d (0:Nat) ()) (ZdF d (0:Nat) ())
theorem pl2_fit(d:Zf):pl2_need d:=⟨rfl,⟨rfl,⟨rfl,λ_=>⟨rfl,rfl⟩⟩,⟨rfl,λ_=>⟨rfl,rfl⟩⟩,⟨rfl,λ_=>⟨rfl,rfl⟩⟩,trivial⟩⟩
theorem pl2_lp_ok(d:Zf)(hl:d.a.n6<=1000):(ZgY d).Ok P:=by
 refine Xg (ZC hm hn (l:=[Ki]) ⟨ZaU,trivial⟩ (ls:=[]) trivial ze) rfl (by kernel_rfl) (pl2_round d) exN YK (λ_=>rfl) (step:=λ_ z=>z) (rd:=(λ_ t y=>())) (λi z=>rfl) (λi=>rfl) rfl (λi hlt hg=>?_) (λi z hi=>?_)
 ·have hltI:(i:Int)<(((Za.n6 (Zf.a d)):Nat):Int):=by omega
  refine⟨?_,⟨λhb0=>trivial,λhb0=>trivial⟩⟩
  all_goals(repeat'(first|exact rfl|exact λ_=>⟨rfl,rfl⟩|apply zB|intro _))
  all_goals(try simp only[decide_eq_true_eq,decide_eq_false_iff_not,yj,yu]at*)
  all_goals(try simp(disch:=omega) only[IntWalk.i64_in])
  all_goals(first|omega)
 ·have hw:=(IntWalk.i64_in ((i:Int)+1) ⟨by omega,by omega⟩)
  refine⟨?_,?_⟩
  all_goals(first|exact⟨rfl,YL (ts:=ZdE d) (a:=()) hw rfl,Yg _⟩|exact⟨rfl,rfl,(by repeat'(first|exact Le.refl _|exact Le.junk _ rfl|apply Le.cons)),Yg _⟩)
abbrev pl4_ts(d:Zf)(w:Int)(m:Nat)(r:Nat->DT3)(i:Int)(z:Int×Int):V:=(.cons (.ptr ze 0 0 0 0) (.cons (.bool ze za) (.cons (.int za .i64 (z.1)) (.cons (.int za .i64 (z.2)) (.cons (.rsl za 2 d.a.n5 (λj=>Zw za (d.a.r5 j))) (.cons (.int za .i64 ((d.a.n5:Nat):Int)) (.cons (.int za .i64 w) (.cons (.rsl za 1 m (λj=>ZP za (r j))) (.cons (.int za .i64 ((m:Nat):Int)) (.cons (.int za .i64 i) .nil))))))))))
abbrev pl4_ys(d:Zf)(w:Int)(m:Nat)(r:Nat->DT3)(i:Int)(z:Int×Int):List Blk:=[.var (YB d.a),mO d,mN d,mH d]
def pl4_R(d:Zf)(w:Int)(m:Nat)(r:Nat->DT3)(i:Int)(z:Int×Int):Tree Rd:=
 let q1:=(bif d.2 (r (zi i)).f0 then d.3 (r (zi i)).f0 else(0:Int))
 let q0:=(d.a.r6 (zi q1))
 zw (((0:Int)<=i/\i<(m:Int))/\(d.4 (r (zi i)).f0=za->(bif !d.2 (r (zi i)).f0 then ze else za)=za->((0:Int)<=bif d.2 (r (zi i)).f0 then d.3 (r (zi i)).f0 else(0:Int))/\q1<((d.a.n6:Nat):Int))) (zx (Ex.normal,ze,zf (pt 0) (zf (zC ze za) (ci (bif d.4 (r (zi i)).f0 then zy .i64 (zL z+(1:Int))else zL z) (ci (bif d.4 (r (zi i)).f0 then zu z else bif bif !d.2 (r (zi i)).f0 then ze else za then zu z else bif bif bif bif !bif decide (q0.f1>=(0:Int))then bif decide (q0.f1<=(3:Int))then bif decide (q0.f2>=(0:Int))then bif decide (q0.f2<=(15:Int))then bif decide (q0.f4>=(0:Int))then decide (q0.f4<=(1125899906842624:Int))else za else za else za else za else za then ze else !(bif q0.f3 != (0:Int)then ze else q0.f4 != (0:Int))==(q0.f1==(3:Int))then ze else za then za else q0.f1==(1:Int)&&(q0.f2==(0:Int)&&(q0.f3==(0:Int)&&(q0.f4==(0:Int)&&ze)))then zy .i64 (zu z+(1:Int))else zu z) (zf (zl za 2 d.a.n5 λjj=>Zw za (d.a.r5 jj)) (ci ((d.a.n5:Nat):Int) (ci w (zf (zl za 1 m λjj=>ci (r jj).f0 zh) (ci (m:Int) (ci (zy .i64 (i+(1:Int))) zh))))))))),[zN (YB d.a),mO d,mN d,mH d]))
theorem pl4_round(d:Zf)(w:Int)(m:Nat)(r:Nat->DT3):Yo P (Zp P [Ki] [] ze) 40 21 5 5 146 [0,2,12,13,108,109,110,115,116,117] [(0,.own),(1,.own),(2,.own),(3,.own)] [] (pl4_ts d w m r) (pl4_ys d w m r) (λi=>(bif decide (i<(m:Int))then za else ze)) (.exit 6) (pl4_R d w m r):=λB i z=>by kernel_rfl
def Zg0(d:Zf)(m:Nat)(r:Nat->DT3)(k:Nat)(z:Int×Int):Int×Int:=(λ(i:Int)(z:Int×Int)=>((bif d.4 (r (zi i)).f0 then zy .i64 (zL z+(1:Int))else zL z,bif d.4 (r (zi i)).f0 then zu z else bif bif !d.2 (r (zi i)).f0 then ze else za then zu z else bif bif bif bif !bif decide ((d.a.r6 (zi (bif d.2 (r (zi i)).f0 then d.3 (r (zi i)).f0 else(0:Int)))).f1>=(0:Int))then bif decide ((d.a.r6 (zi (bif d.2 (r (zi i)).f0 then d.3 (r (zi i)).f0 else(0:Int)))).f1<=(3:Int))then bif decide ((d.a.r6 (zi (bif d.2 (r (zi i)).f0 then d.3 (r (zi i)).f0 else(0:Int)))).f2>=(0:Int))then bif decide ((d.a.r6 (zi (bif d.2 (r (zi i)).f0 then d.3 (r (zi i)).f0 else(0:Int)))).f2<=(15:Int))then bif decide ((d.a.r6 (zi (bif d.2 (r (zi i)).f0 then d.3 (r (zi i)).f0 else(0:Int)))).f4>=(0:Int))then decide ((d.a.r6 (zi (bif d.2 (r (zi i)).f0 then d.3 (r (zi i)).f0 else(0:Int)))).f4<=(1125899906842624:Int))else za else za else za else za else za then ze else !(bif (d.a.r6 (zi (bif d.2 (r (zi i)).f0 then d.3 (r (zi i)).f0 else(0:Int)))).f3 != (0:Int)then ze else(d.a.r6 (zi (bif d.2 (r (zi i)).f0 then d.3 (r (zi i)).f0 else(0:Int)))).f4 != (0:Int))==((d.a.r6 (zi (bif d.2 (r (zi i)).f0 then d.3 (r (zi i)).f0 else(0:Int)))).f1==(3:Int))then ze else za then za else(d.a.r6 (zi (bif d.2 (r (zi i)).f0 then d.3 (r (zi i)).f0 else(0:Int)))).f1==(1:Int)&&((d.a.r6 (zi (bif d.2 (r (zi i)).f0 then d.3 (r (zi i)).f0 else(0:Int)))).f2==(0:Int)&&((d.a.r6 (zi (bif d.2 (r (zi i)).f0 then d.3 (r (zi i)).f0 else(0:Int)))).f3==(0:Int)&&((d.a.r6 (zi (bif d.2 (r (zi i)).f0 then d.3 (r (zi i)).f0 else(0:Int)))).f4==(0:Int)&&ze)))then zy .i64 (zu z+(1:Int))else zu z))) k z
def J2(d:Zf)(m:Nat)(r:Nat->DT3)(k:Nat):Int×Int:=ZQ (0,0) (Zg0 d m r) k
def pl4_lp(d:Zf)(w:Int)(m:Nat)(r:Nat->DT3):Lp:=JE 40 21 5 5 146 [0,2,12,13,108,109,110,115,116,117] [(0,.own),(1,.own),(2,.own),(3,.own)] [] (pl4_ts d w m r) (pl4_ys d w m r) (.exit 6) (0,0) (J2 d m r) (m)
theorem pl4_lp_ok(d:Zf)(w:Int)(m:Nat)(r:Nat->DT3)(hl:m<=1000)(hO:∀j:Int,d.oh j=ze->0<=d.og j/\d.og j<d.a.n6):(pl4_lp d w m r).Ok P:=by
 refine JY (ZC hm hn (l:=[Ki]) ⟨ZaU,trivial⟩ (ls:=[]) trivial ze) rfl (by kernel_rfl) (pl4_round d w m r) exN YK (λ_=>rfl) (rd:=(λ_ t y=>((t.nth 2).toInt,(t.nth 3).toInt))) (λi z=>rfl) (λi=>rfl) rfl (λi hlt hg=>?_) (λi z hi=>?_)
 ·have hltI:(i:Int)<((m:Nat):Int):=by omega
  refine⟨?_,trivial⟩
  all_goals(repeat'(first|exact rfl|exact λ_=>⟨rfl,rfl⟩|apply zB|intro _))
  all_goals(try simp only[decide_eq_true_eq,decide_eq_false_iff_not,yj,yu]at*)
  all_goals(try simp(disch:=omega) only[IntWalk.i64_in])
  all_goals(first|omega|exact(Jr ‹_› (hO _)).1|exact(Jr ‹_› (hO _)).2)
 ·have hw:=(IntWalk.i64_in ((i:Int)+1) ⟨by omega,by omega⟩)
  all_goals exact⟨rfl,YL (ts:=pl4_ts d w m r) hw rfl,Yg _⟩
def pl4_in(d:Zf):Lp:=⟨40,21,λ_ s=>(s.tmp 110).VZ .stuck λw=>(s.tmp 115).Zam .stuck λm r115=>.need ((λ(d:Zf)(w:Int)(m:Nat)(r:Nat->DT3)=>m<=1000) d w m (λj=>ZM (r115 j))) ((pl4_lp d w m (λj=>ZM (r115 j))).g _ s)⟩
theorem pl4_in_ok(d:Zf)(hO:∀j:Int,d.oh j=ze->0<=d.og j/\d.og j<d.a.n6):(pl4_in d).Ok P:=by
 intro body hin hfr B s Q hq
 obtain⟨w,hq⟩:=UL hq
 obtain⟨m,r115,hq⟩:=Zby hq
 exact pl4_lp_ok d w m (λj=>ZM (r115 j)) hq.1 hO body hin hfr B s Q hq.2
abbrev ZdG(d:Zf)(i:Int)(z:Unit):V:=(.cons (.ptr ze 0 0 0 0) (.cons (.bool ze za) (.cons (.rsl za 2 (Za.n5 (Zf.a d)) (λj=>Zw za ((Zf.a d).r5 j))) (.cons (.int za .i64 (((Za.n5 (Zf.a d)):Nat):Int)) (.cons (.int za .i64 i) .nil)))))
abbrev ZdH(d:Zf)(i:Int)(z:Unit):List Blk:=[.var (YB d.a),mO d,mN d,mH d]
def pl3_R(d:Zf)(i:Int)(z:Unit):Tree Rd:=
 let q5:=(zl za 2 d.a.n5 λj=>Zw za (d.a.r5 j))
 let q0:=(zf (zl za 2 d.a.n1 λj=>ZR za (d.a.r1 j)) (zf (zl za 1 d.a.n2 λj=>zf (zn za .u32 (d.a.r2 j).f0) zh) (zf (zl za 4 d.a.n3 λj=>Zr za (d.a.r3 j)) (zf (zl za 4 d.a.n4 λj=>Zn za (d.a.r4 j)) (zf q5 (zf (zl za 11 d.a.n6 λj=>Zo za (d.a.r6 j)) (zf (zl za 2 d.a.n7 λj=>ZO za (d.a.r7 j)) (zf (zl za 5 d.a.n8 λj=>ZI za (d.a.r8 j)) (ci d.a.f9 (zf (zl za 2 d.a.n10 λj=>ZE za (d.a.r10 j)) (zf (zl za 3 d.a.n11 λj=>Zx za (d.a.r11 j)) (zf (zl za 2 d.a.n12 λj=>Zt za (d.a.r12 j)) (zf (zn za .u64 d.a.f13) (zf (zZ 1) (zf (zZ 2) (zf (zZ 3) zh))))))))))))))))
 let q6:=(vi (0:Int))
 let q3:=(vi ((d.a.n5:Nat):Int))
 let q1:=(zf (zC za za) (zf q6 (zf q6 (zf q5 (zf q3 (ci i (zf (zl za 1 (d.a.r5 (zi i)).n1 λj=>ci ((d.a.r5 (zi i)).3 j).f0 zh) (ci (((d.a.r5 (zi i)).n1:Nat):Int) (zf q6 zh)))))))))
 let q2:=(J2 d (d.a.r5 (zi i)).n1 (λj=>ZM (ZP za ((d.a.r5 (zi i)).3 j))) (d.a.r5 (zi i)).n1)
 let q4:=(zl za 2 d.a.n5 λjj=>Zw za (d.a.r5 jj))
 zw (((0:Int)<=i/\i<((d.a.n5:Nat):Int))/\(d.a.r5 (zi i)).n1<=(1000:Nat)/\zf (zV za 0 0 0 0) q1=zf (zV za 0 0 0 0) q1/\ci d.a.f0 q0=ci d.a.f0 q0/\(zq=zq/\YR .i64 (λx=>(d.2 (Zb x),vi (d.3 (Zb x)))) λk=>(d.2 (Zb k),vi (d.3 (Zb k))))/\(zq=zq/\YR .i64 (λx=>(d.4 (Zb x),vi (d.5 (Zb x)))) λk=>(d.4 (Zb k),vi (d.5 (Zb k))))/\(zq=zq/\YR .i64 (λx=>(d.6 (Zb x),vi (d.7 (Zb x)))) λk=>(d.6 (Zb k),vi (d.7 (Zb k))))/\True) (zD (bif bif bif decide (zL q2>(0:Int))then decide (zu q2>(0:Int))else za then ze else za then ze else za) (zx (Ex.ret,ze,zf (pt 0) (zf (zC ze za) (zf q4 (zf q3 (ci i zh)))),[zN (YB d.a),mO d,mN d,mH d])) (zx (Ex.normal,ze,zf (pt 0) (zf (zC ze za) (zf q4 (zf q3 (ci (zy .i64 (i+(1:Int))) zh)))),[zN (YB d.a),mO d,mN d,mH d])))
theorem pl3_round(d:Zf):Yo P (Zp P [Ki] [pl4_in d] ze) 40 17 4 4 146 [0,2,108,109,110] [(0,.own),(1,.own),(2,.own),(3,.own)] [] (ZdG d) (ZdH d) (λi=>(bif decide (i<((d.a.n5:Nat):Int))then za else ze)) (.exit 4) (pl3_R d):=λB i z=>by kernel_rfl
def Zao(d:Zf)(k:Nat):Bool:=(pl3_R d k ()).early
abbrev pl3_ets(d:Zf)(i:Int)(z:Unit):V:=(.cons (zV ze 0 0 0 0) (.cons (zC ze za) (.cons (zl za 2 d.a.n5 λjj=>Zw za (d.a.r5 jj)) (.cons (zn za .i64 ((d.a.n5:Nat):Int)) (.cons .junk .nil)))))
def ZgZ(d:Zf):Lp:=lpL 40 17 4 4 146 [0,2,108,109,110] [(0,.own),(1,.own),(2,.own),(3,.own)] [] (ZdG d) (ZdH d) (.exit 4) .ret () (λ_=>()) (Zao d) (Za.n5 (Zf.a d)) (pl3_ets d) (ZdH d)
def pl3_need(d:Zf):Prop:=YW 4 [] (ZdG d) (ZdH d) () (ZdG d (0:Nat) ()) (ZdH d (0:Nat) ())
theorem pl3_fit(d:Zf):pl3_need d:=⟨rfl,⟨rfl,⟨rfl,λ_=>⟨rfl,rfl⟩⟩,⟨rfl,λ_=>⟨rfl,rfl⟩⟩,⟨rfl,λ_=>⟨rfl,rfl⟩⟩,trivial⟩⟩
theorem pl3_lp_ok(d:Zf)(hl:d.a.n5<=1000)(hMA:∀j,(d.a.r5 j).n1<=1000)(hO:∀j:Int,d.oh j=ze->0<=d.og j/\d.og j<d.a.n6):(ZgZ d).Ok P:=by
 refine Xg (ZC hm hn (l:=[Ki]) ⟨ZaU,trivial⟩ (ls:=[pl4_in d]) ⟨pl4_in_ok d hO,trivial⟩ ze) rfl (by kernel_rfl) (pl3_round d) exN YK (λ_=>rfl) (step:=λ_ z=>z) (rd:=(λ_ t y=>())) (λi z=>rfl) (λi=>rfl) rfl (λi hlt hg=>?_) (λi z hi=>?_)
 ·have hltI:(i:Int)<(((Za.n5 (Zf.a d)):Nat):Int):=by omega
  refine⟨?_,⟨λhb0=>trivial,λhb0=>trivial⟩⟩
  all_goals(repeat'(first|exact rfl|exact λ_=>⟨rfl,rfl⟩|apply zB|intro _))
  all_goals(try simp only[decide_eq_true_eq,decide_eq_false_iff_not,yj,yu]at*)
  all_goals(try simp(disch:=omega) only[IntWalk.i64_in])
  all_goals(first|omega|exact hMA _)
 ·have hw:=(IntWalk.i64_in ((i:Int)+1) ⟨by omega,by omega⟩)
  refine⟨?_,?_⟩
  all_goals(first|exact⟨rfl,YL (ts:=ZdG d) (a:=()) hw rfl,Yg _⟩|exact⟨rfl,rfl,(by repeat'(first|exact Le.refl _|exact Le.junk _ rfl|apply Le.cons)),Yg _⟩)
def vPlaced_T(d:Zf):Tree (V×List Blk):=
 let q12:=(zl za 2 d.a.n5 λj=>Zw za (d.a.r5 j))
 let q13:=(zl za 11 d.a.n6 λj=>Zo za (d.a.r6 j))
 let q11:=(zl za 2 d.a.n12 λj=>Zt za (d.a.r12 j))
 let q0:=(zf (zl za 2 d.a.n1 λj=>ZR za (d.a.r1 j)) (zf (zl za 1 d.a.n2 λj=>zf (zn za .u32 (d.a.r2 j).f0) zh) (zf (zl za 4 d.a.n3 λj=>Zr za (d.a.r3 j)) (zf (zl za 4 d.a.n4 λj=>Zn za (d.a.r4 j)) (zf q12 (zf q13 (zf (zl za 2 d.a.n7 λj=>ZO za (d.a.r7 j)) (zf (zl za 5 d.a.n8 λj=>ZI za (d.a.r8 j)) (ci d.a.f9 (zf (zl za 2 d.a.n10 λj=>ZE za (d.a.r10 j)) (zf (zl za 3 d.a.n11 λj=>Zx za (d.a.r11 j)) (zf q11 (zf (zn za .u64 d.a.f13) (zf (zZ 1) (zf (zZ 2) (zf (zZ 3) zh))))))))))))))))
 let q1:=[zN (YB d.a),Blk.Zm (MK.int .i64) za (λk=>(d.2 (Zb k),vi (d.3 (Zb k)))) zm,Blk.Zm (MK.int .i64) za (λk=>(d.4 (Zb k),vi (d.5 (Zb k)))) zm,Blk.Zm (MK.int .i64) za (λk=>(d.6 (Zb k),vi (d.7 (Zb k)))) zm]
 let q2:=(zq=zq/\YR .i64 (λx=>(d.2 (Zb x),vi (d.3 (Zb x)))) λk=>(d.2 (Zb k),vi (d.3 (Zb k))))
 let q3:=(zq=zq/\YR .i64 (λx=>(d.4 (Zb x),vi (d.5 (Zb x)))) λk=>(d.4 (Zb k),vi (d.5 (Zb k))))
 let q4:=(zq=zq/\YR .i64 (λx=>(d.6 (Zb x),vi (d.7 (Zb x)))) λk=>(d.6 (Zb k),vi (d.7 (Zb k))))
 let q9:=(ci (0:Int) zh)
 let q5:=(zf (zC za za) (ci (-1:Int) (zf q11 (ci ((d.a.n12:Nat):Int) q9))))
 let q6:=(zf (zC za za) (zf q13 (ci ((d.a.n6:Nat):Int) q9)))
 let q7:=(zf (zC za za) (zf q12 (ci ((d.a.n5:Nat):Int) q9)))
 let q8:=(vi d.a.f0)
 let q10:=(zx (zC ze za,q1))
 zw (zf (zV za 0 0 0 0) q5=zf (zV za 0 0 0 0) q5/\zf q8 q0=zf q8 q0/\q2/\q3/\q4/\True) (zD (bif Zv (KC d) d.a.n12 then ze else za) q10 (zw (zf (zV za 0 0 0 0) q6=zf (zV za 0 0 0 0) q6/\zf q8 q0=zf q8 q0/\q2/\q3/\q4/\True) (zD (bif Zv (Zan d) d.a.n6 then ze else za) q10 (zw (zf (zV za 0 0 0 0) q7=zf (zV za 0 0 0 0) q7/\zf q8 q0=zf q8 q0/\q2/\q3/\q4/\True) (zD (bif Zv (Zao d) d.a.n5 then ze else za) q10 (zx (zC ze ze,q1)))))))
theorem Zr0(d:Zf):evH (Zp P [Ki,ZaI,X9] [ZgX d,ZgY d,ZgZ d] ze) 400 40 (.cons (.ptr ze 0 0 0 0) .nil) (YA d)=vPlaced_T d:=by kernel_rfl
def Zau(d:Zf):Bool:=
  (bif bif Zv (KC d) d.a.n12 then ze else za then(za)else(bif bif Zv (Zan d) d.a.n6 then ze else za then(za)else(bif bif Zv (Zao d)
  d.a.n5 then ze else za then(za)else(ze))))
theorem ZrY(d:Zf)(h0:d.a.n3<=1000)(h1:d.a.n4<=1000)(h2:d.a.n5<=1000)(h3:d.a.n6<=1000)(h4:d.a.n12<=1000)(h5:∀j,(d.a.r5 j).n1<=1000)(h6:∀j:Int,d.oh j=ze->0<=d.og j/\d.og j<d.a.n6)(h7:d.a.n6=d.a.n4)(h8:0<d.a.n4->∀j:Int,0<=(bif d.hh j then d.hg j else 0)/\(bif d.hh j then d.hg j else 0)<d.a.n3)(h9:0<d.a.n4->∀j:Int,0<=(d.a.r3 (bif d.hh j then d.hg j else 0).toNat).f3/\(d.a.r3 (bif d.hh j then d.hg j else 0).toNat).f3<d.a.n2)(h10:d.a.n7=d.a.n3):YG P 40 (.cons (.ptr ze 0 0 0 0) .nil) (YA d) (.leaf (.bool za (Zau d),YA d)):=by
 refine G8 (E:=(Zp P [Ki,ZaI,X9] [ZgX d,ZgY d,ZgZ d] ze)) (ZC hm hn (l:=[Ki,ZaI,X9]) ⟨ZaU,Zkc,Vy,trivial⟩ (ls:=[ZgX d,ZgY d,ZgZ d]) ⟨pl1_lp_ok d h4 h6 h7 h0 h1 h8 h9 h10,pl2_lp_ok d h3,pl3_lp_ok d h2 h5 h6,trivial⟩ ze) (Zr0 d) ((cC rfl (cC rfl (cC rfl rfl)))) ⟨⟨rfl,rfl⟩,⟨⟨rfl,rfl⟩,⟨⟨rfl,rfl⟩,⟨rfl,rfl⟩⟩⟩⟩ ?_
 refine⟨?_,⟨λhb0=>trivial,λhb0=>⟨?_,⟨λhb1=>trivial,λhb1=>⟨?_,⟨λhb2=>trivial,λhb2=>trivial⟩⟩⟩⟩⟩⟩
 all_goals((repeat'(first|exact pl1_fit d|exact pl2_fit d|exact pl3_fit d|exact rfl|exact λ_=>⟨rfl,rfl⟩|apply zB|intro _));all_goals(try simp only[decide_eq_true_eq,decide_eq_false_iff_not]at*);all_goals(first|omega|exact pl1_fit d|exact pl2_fit d|exact pl3_fit d))
def ZbW:HK:=λargs bl=>match args,bl with
 |(.cons (.ptr ze 0 0 0 0) .nil),[.var c,.Zm (.int .i64) _ fo _,.Zm (.int .i64) _ fn _,.Zm (.int .i64) _ fh _]=>zk (c.Jj λc=>.need (UZ c fo fn fh/\(λ(d:Zf)=>d.a.n3<=1000/\d.a.n4<=1000/\d.a.n5<=1000/\d.a.n6<=1000/\d.a.n12<=1000/\(∀j,(d.a.r5 j).n1<=1000)/\(∀j:Int,d.oh j=ze->0<=d.og j/\d.og j<d.a.n6)/\d.a.n6=d.a.n4/\(0<d.a.n4->∀j:Int,0<=(bif d.hh j then d.hg j else 0)/\(bif d.hh j then d.hg j else 0)<d.a.n3)/\(0<d.a.n4->∀j:Int,0<=(d.a.r3 (bif d.hh j then d.hg j else 0).toNat).f3/\(d.a.r3 (bif d.hh j then d.hg j else 0).toNat).f3<d.a.n2)/\d.a.n7=d.a.n3) (XF c fo fn fh)) (.leaf (.bool za (Zau (XF c fo fn fh)),YA (XF c fo fn fh))))
 |_,_=>zm
theorem ZrZ:Xj P 40 ZbW:=by
 intro args bl T hT
 unfold ZbW at hT
 split at hT
 ·rename_i c q1 fo q2 q3 fn q4 q5 fh q6
  injection hT with hT
  subst hT
  intro base mm F w xs Q KK h1 h2 hq hk
  simp only[V.JU]at hq
  obtain⟨hp,hq⟩:=hq
  exact YG.le (bl:=[.var c,.Zm (.int .i64) q1 fo q2,.Zm (.int .i64) q3 fn q4,.Zm (.int .i64) q5 fh q6]) (ZrY (XF c fo fn fh) hp.2.1 hp.2.2.1 hp.2.2.2.1 hp.2.2.2.2.1 hp.2.2.2.2.2.1 hp.2.2.2.2.2.2.1 hp.2.2.2.2.2.2.2.1 hp.2.2.2.2.2.2.2.2.1 hp.2.2.2.2.2.2.2.2.2.1 hp.2.2.2.2.2.2.2.2.2.2.1 hp.2.2.2.2.2.2.2.2.2.2.2) rfl (λb=>Zaw hp.1 b) base mm F w xs Q KK h1 h2 hq hk
 ·cases hT
end Go.Proofs.YthhbdbeglmkijaaGreatDoor
end
