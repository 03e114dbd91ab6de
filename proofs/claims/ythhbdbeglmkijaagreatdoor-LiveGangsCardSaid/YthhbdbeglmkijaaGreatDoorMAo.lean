/- gang.matching: its contract, of rows that are laid one by one. -/
import Derived.Test.YthhbdbeglmkijaaGreatDoorMAm
import Derived.Test.YthhbdbeglmkijaaGreatDoorMAn
import Derived.Test.YthhbdbeglmkijaaGreatDoorMAg
import Derived.Test.YthhbdbeglmkijaaGreatDoorMAk
import Derived.Test.YthhbdbeglmkijaaGreatDoorMAl
import Derived.Test.YthhbdbeglmkijaaGreatDoorMAf
set_option maxRecDepth 100000
set_option linter.unusedVariables false
set_option linter.unusedSimpArgs false
noncomputable section
open Bool renaming false→za,true→ze,not_eq_true'→yg,not_eq_false'→yw
open Go.IntKind renaming wrap→zD,u32→yD,bits→zY,i64→zA
open BitVec renaming toNat→yF,ofInt→yc
open Nat renaming beq→zq,eq_of_beq_eq_true→zO,zero_add→zX
open Option renaming some→zi,none→zm
open Go.Fw.V renaming rsl→zl,cons→zf,int→zn,nil→zh,bool→zC,mp→zZ,ptr→zQ,agg→zJ
open Go.Fw.Tree renaming leaf→zw,node→zB,need→zu
open True renaming intro→yj
open And renaming intro→zy
open Int renaming toNat→zk
open Go.Fw.Blk renaming var→zN
open Prod renaming fst→zR,snd→zx
namespace Go.Proofs.YthhbdbeglmkijaaGreatDoor
open Go.Fw
def rowOk(d:Zb):Prop:=d.n0<=1000/\∀k,k<d.n0->0<=(d.r0 k).f0/\(d.r0 k).f0<8
theorem VO(c:Nat):rowOk ⟨Xf c,λj=>Xb c j⟩:=⟨by show Xf c<=1000;have:=lst_le c;omega,λk _=>lst_lt c k⟩
theorem Vb{F:Nat->Prop}{w:World}{N:Nat}{m:Nat->Option Nat}{st:Bool}{es n:Nat}{g g':Nat->V}{xs:List Value}(h:∀j,j<n->(g j).soft=(g' j).soft)(hx:RL F w (.cons (.rsl st es n g) .nil) N m xs):RL F w (.cons (.rsl za es n g') .nil) N m xs:=by
 simp only[RL,R]at hx⊢
 obtain⟨x,r,rfl,⟨a,cap,rfl,hc,hr⟩,hn⟩:=hx
 refine⟨_,r,rfl,⟨a,cap,rfl,hc,?_⟩,hn⟩
 rcases hr with hr|⟨B,off,e1,e2,c,el,fr,k1,k2⟩
 ·exact .inl hr
 ·refine .inr ⟨B,off,e1,e2,c,el,fr,k1,λj hj=>?_⟩
  obtain⟨ys,hy,hl⟩:=k2 j hj
  have e:=((YM (g j) _ _).2 _).2 hy
  rw[h j hj]at e
  exact⟨ys,((YM (g' j) _ _).2 _).1 e,hl⟩
def XA(LN:Int->Nat)(LI:Int->Nat->DT3):Con:=Yd 166 (λx=>.cons (.int za .u32 x.hd.toInt) .nil) (λx=>.rsl za 1 (LN x.hd.toInt) λj=>ZK za (LI x.hd.toInt j)) (λx=>0<=x.hd.toInt/\x.hd.toInt<256)
theorem Vg:(XA (λs=>Xf s.toNat) (λs=>Xb s.toNat)).Ok P:=c_lst_ok
theorem Yy{s:Int}(h:0<=s/\s<4294967296)(hb:(bif zD yD ((yF (yc (zY yD) s&&& ~~~yc (zY yD) (255:Int)):Nat):Int) != (0:Int)then ze else za)=za):0<=s/\s<256:=by
 obtain⟨n,rfl⟩:=Int.eq_ofNat_of_zero_le h.1
 have hn:n<4294967296:=by omega
 have hb':=nf5 hb
 generalize hx:yF (yc (zY yD) (n:Int)&&& ~~~yc (zY yD) (255:Int))=x at hb'
 have hx2:x<4294967296:=by rw[<- hx];exact BitVec.isLt _
 rw[IntWalk.u32_in (x:Int) ⟨by omega,by omega⟩]at hb'
 have h0:x=0:=by omega
 rw[h0]at hx
 rw[BitVec.toNat_and]at hx
 have e1:(yc (zY yD) (n:Int)).toNat=n:=by
  show(yc 32 (n:Int)).toNat=n
  rw[BitVec.toNat_ofInt];omega
 have e2:(~~~yc (zY yD) (255:Int)).toNat=4294967040:=rfl
 rw[e1,e2]at hx
 have h1:=congrArg (·>>>8) hx
 simp only[Nat.shiftRight_and_distrib]at h1
 have e3:4294967040>>>8=2^24-1:=by decide
 rw[e3,Nat.and_two_pow_sub_one_eq_mod,Nat.shiftRight_eq_div_pow]at h1
 have e4:(0:Nat)>>>8=0:=by decide
 rw[e4]at h1
 have:n/2^8<2^24:=by omega
 rw[Nat.mod_eq_of_lt this]at h1
 refine⟨by omega,?_⟩
 have:n<256:=by
  have h3:=Nat.div_eq_zero_iff.1 h1
  omega
 omega
abbrev ZX(v:V):Zb:=⟨v.hd.Zi,λk=>⟨(v.hd.Zn k).hd.toInt⟩⟩
def YZ(v:V):Prop:=v.soft=Qk za (ZX v)/\rowOk (ZX v)
def c_gm1(GM:Zb->Bool):Con:={ g:=113,al:=ze,ans:=λx=>match x with
 | .cons (.rsl _ 1 n get) .nil=>bif zq n 1 then zi (.where_ (YZ (get 0)) (.bool za (GM (ZX (get 0)))))else zm
 |_=>zm }
def row1(e0:Zb):Nat->Zb:=λj=>match j with
 |0=>e0
 |_=>e0
theorem c_gm1_ok:(c_gm1 λe0=>Xa 1 (row1 e0)).Ok P:=by
 intro x
 dsimp only[c_gm1]
 split
 ·rename_i v h
  split at h
  ·rename_i n get
   cases hb:zq n 1<;>rw[hb]at h<;>cases h
  ·cases h
 ·rename_i p v h
  split at h
  ·rename_i n get
   cases hb:zq n 1 with
   |false=>rw[hb]at h;cases h
   |true=>
    rw[hb]at h
    injection h with h
    injection h with h1 h2
    subst h1;subst h2
    obtain rfl:=zO hb
    intro hp
    refine Zh.args (Uf 1 (row1 (ZX (get 0))) (by omega) (λj hj=>?_)) λF w n' m xs hx=>Vb (λj hj=>?_) hx
    ·match j,hj with
     |0,_=>exact(hp).2
    ·match j,hj with
     |0,_=>exact(hp).1
  ·cases h
 ·rename_i h
  split at h
  ·rename_i n get
   cases hb:zq n 1<;>rw[hb]at h<;>cases h
  ·cases h
 ·trivial
def c_gm2(GM:Zb->Zb->Bool):Con:={ g:=113,al:=ze,ans:=λx=>match x with
 | .cons (.rsl _ 1 n get) .nil=>bif zq n 2 then zi (.where_ (YZ (get 0)/\YZ (get 1)) (.bool za (GM (ZX (get 0)) (ZX (get 1)))))else zm
 |_=>zm }
def Jy(e0:Zb)(e1:Zb):Nat->Zb:=λj=>match j with
 |0=>e0
 |1=>e1
 |_=>e0
theorem c_gm2_ok:(c_gm2 λe0 e1=>Xa 2 (Jy e0 e1)).Ok P:=by
 intro x
 dsimp only[c_gm2]
 split
 ·rename_i v h
  split at h
  ·rename_i n get
   cases hb:zq n 2<;>rw[hb]at h<;>cases h
  ·cases h
 ·rename_i p v h
  split at h
  ·rename_i n get
   cases hb:zq n 2 with
   |false=>rw[hb]at h;cases h
   |true=>
    rw[hb]at h
    injection h with h
    injection h with h1 h2
    subst h1;subst h2
    obtain rfl:=zO hb
    intro hp
    refine Zh.args (Uf 2 (Jy (ZX (get 0)) (ZX (get 1))) (by omega) (λj hj=>?_)) λF w n' m xs hx=>Vb (λj hj=>?_) hx
    ·match j,hj with
     |0,_=>exact(hp.1).2
     |1,_=>exact(hp.2).2
    ·match j,hj with
     |0,_=>exact(hp.1).1
     |1,_=>exact(hp.2).1
  ·cases h
 ·rename_i h
  split at h
  ·rename_i n get
   cases hb:zq n 2<;>rw[hb]at h<;>cases h
  ·cases h
 ·trivial
def c_gm3(GM:Zb->Zb->Zb->Bool):Con:={ g:=113,al:=ze,ans:=λx=>match x with
 | .cons (.rsl _ 1 n get) .nil=>bif zq n 3 then zi (.where_ (YZ (get 0)/\YZ (get 1)/\YZ (get 2)) (.bool za (GM (ZX (get 0)) (ZX (get 1)) (ZX (get 2)))))else zm
 |_=>zm }
def row3(e0:Zb)(e1:Zb)(e2:Zb):Nat->Zb:=λj=>match j with
 |0=>e0
 |1=>e1
 |2=>e2
 |_=>e0
theorem c_gm3_ok:(c_gm3 λe0 e1 e2=>Xa 3 (row3 e0 e1 e2)).Ok P:=by
 intro x
 dsimp only[c_gm3]
 split
 ·rename_i v h
  split at h
  ·rename_i n get
   cases hb:zq n 3<;>rw[hb]at h<;>cases h
  ·cases h
 ·rename_i p v h
  split at h
  ·rename_i n get
   cases hb:zq n 3 with
   |false=>rw[hb]at h;cases h
   |true=>
    rw[hb]at h
    injection h with h
    injection h with h1 h2
    subst h1;subst h2
    obtain rfl:=zO hb
    intro hp
    refine Zh.args (Uf 3 (row3 (ZX (get 0)) (ZX (get 1)) (ZX (get 2))) (by omega) (λj hj=>?_)) λF w n' m xs hx=>Vb (λj hj=>?_) hx
    ·match j,hj with
     |0,_=>exact(hp.1).2
     |1,_=>exact(hp.2.1).2
     |2,_=>exact(hp.2.2).2
    ·match j,hj with
     |0,_=>exact(hp.1).1
     |1,_=>exact(hp.2.1).1
     |2,_=>exact(hp.2.2).1
  ·cases h
 ·rename_i h
  split at h
  ·rename_i n get
   cases hb:zq n 3<;>rw[hb]at h<;>cases h
  ·cases h
 ·trivial
def c_gm4(GM:Zb->Zb->Zb->Zb->Bool):Con:={ g:=113,al:=ze,ans:=λx=>match x with
 | .cons (.rsl _ 1 n get) .nil=>bif zq n 4 then zi (.where_ (YZ (get 0)/\YZ (get 1)/\YZ (get 2)/\YZ (get 3)) (.bool za (GM (ZX (get 0)) (ZX (get 1)) (ZX (get 2)) (ZX (get 3)))))else zm
 |_=>zm }
def row4(e0:Zb)(e1:Zb)(e2:Zb)(e3:Zb):Nat->Zb:=λj=>match j with
 |0=>e0
 |1=>e1
 |2=>e2
 |3=>e3
 |_=>e0
theorem c_gm4_ok:(c_gm4 λe0 e1 e2 e3=>Xa 4 (row4 e0 e1 e2 e3)).Ok P:=by
 intro x
 dsimp only[c_gm4]
 split
 ·rename_i v h
  split at h
  ·rename_i n get
   cases hb:zq n 4<;>rw[hb]at h<;>cases h
  ·cases h
 ·rename_i p v h
  split at h
  ·rename_i n get
   cases hb:zq n 4 with
   |false=>rw[hb]at h;cases h
   |true=>
    rw[hb]at h
    injection h with h
    injection h with h1 h2
    subst h1;subst h2
    obtain rfl:=zO hb
    intro hp
    refine Zh.args (Uf 4 (row4 (ZX (get 0)) (ZX (get 1)) (ZX (get 2)) (ZX (get 3))) (by omega) (λj hj=>?_)) λF w n' m xs hx=>Vb (λj hj=>?_) hx
    ·match j,hj with
     |0,_=>exact(hp.1).2
     |1,_=>exact(hp.2.1).2
     |2,_=>exact(hp.2.2.1).2
     |3,_=>exact(hp.2.2.2).2
    ·match j,hj with
     |0,_=>exact(hp.1).1
     |1,_=>exact(hp.2.1).1
     |2,_=>exact(hp.2.2.1).1
     |3,_=>exact(hp.2.2.2).1
  ·cases h
 ·rename_i h
  split at h
  ·rename_i n get
   cases hb:zq n 4<;>rw[hb]at h<;>cases h
  ·cases h
 ·trivial
def c_gm5(GM:Zb->Zb->Zb->Zb->Zb->Bool):Con:={ g:=113,al:=ze,ans:=λx=>match x with
 | .cons (.rsl _ 1 n get) .nil=>bif zq n 5 then zi (.where_ (YZ (get 0)/\YZ (get 1)/\YZ (get 2)/\YZ (get 3)/\YZ (get 4)) (.bool za (GM (ZX (get 0)) (ZX (get 1)) (ZX (get 2)) (ZX (get 3)) (ZX (get 4)))))else zm
 |_=>zm }
def row5(e0:Zb)(e1:Zb)(e2:Zb)(e3:Zb)(e4:Zb):Nat->Zb:=λj=>match j with
 |0=>e0
 |1=>e1
 |2=>e2
 |3=>e3
 |4=>e4
 |_=>e0
theorem c_gm5_ok:(c_gm5 λe0 e1 e2 e3 e4=>Xa 5 (row5 e0 e1 e2 e3 e4)).Ok P:=by
 intro x
 dsimp only[c_gm5]
 split
 ·rename_i v h
  split at h
  ·rename_i n get
   cases hb:zq n 5<;>rw[hb]at h<;>cases h
  ·cases h
 ·rename_i p v h
  split at h
  ·rename_i n get
   cases hb:zq n 5 with
   |false=>rw[hb]at h;cases h
   |true=>
    rw[hb]at h
    injection h with h
    injection h with h1 h2
    subst h1;subst h2
    obtain rfl:=zO hb
    intro hp
    refine Zh.args (Uf 5 (row5 (ZX (get 0)) (ZX (get 1)) (ZX (get 2)) (ZX (get 3)) (ZX (get 4))) (by omega) (λj hj=>?_)) λF w n' m xs hx=>Vb (λj hj=>?_) hx
    ·match j,hj with
     |0,_=>exact(hp.1).2
     |1,_=>exact(hp.2.1).2
     |2,_=>exact(hp.2.2.1).2
     |3,_=>exact(hp.2.2.2.1).2
     |4,_=>exact(hp.2.2.2.2).2
    ·match j,hj with
     |0,_=>exact(hp.1).1
     |1,_=>exact(hp.2.1).1
     |2,_=>exact(hp.2.2.1).1
     |3,_=>exact(hp.2.2.2.1).1
     |4,_=>exact(hp.2.2.2.2).1
  ·cases h
 ·rename_i h
  split at h
  ·rename_i n get
   cases hb:zq n 5<;>rw[hb]at h<;>cases h
  ·cases h
 ·trivial
def c_gm6(GM:Zb->Zb->Zb->Zb->Zb->Zb->Bool):Con:={ g:=113,al:=ze,ans:=λx=>match x with
 | .cons (.rsl _ 1 n get) .nil=>bif zq n 6 then zi (.where_ (YZ (get 0)/\YZ (get 1)/\YZ (get 2)/\YZ (get 3)/\YZ (get 4)/\YZ (get 5)) (.bool za (GM (ZX (get 0)) (ZX (get 1)) (ZX (get 2)) (ZX (get 3)) (ZX (get 4)) (ZX (get 5)))))else zm
 |_=>zm }
def row6(e0:Zb)(e1:Zb)(e2:Zb)(e3:Zb)(e4:Zb)(e5:Zb):Nat->Zb:=λj=>match j with
 |0=>e0
 |1=>e1
 |2=>e2
 |3=>e3
 |4=>e4
 |5=>e5
 |_=>e0
theorem c_gm6_ok:(c_gm6 λe0 e1 e2 e3 e4 e5=>Xa 6 (row6 e0 e1 e2 e3 e4 e5)).Ok P:=by
 intro x
 dsimp only[c_gm6]
 split
 ·rename_i v h
  split at h
  ·rename_i n get
   cases hb:zq n 6<;>rw[hb]at h<;>cases h
  ·cases h
 ·rename_i p v h
  split at h
  ·rename_i n get
   cases hb:zq n 6 with
   |false=>rw[hb]at h;cases h
   |true=>
    rw[hb]at h
    injection h with h
    injection h with h1 h2
    subst h1;subst h2
    obtain rfl:=zO hb
    intro hp
    refine Zh.args (Uf 6 (row6 (ZX (get 0)) (ZX (get 1)) (ZX (get 2)) (ZX (get 3)) (ZX (get 4)) (ZX (get 5))) (by omega) (λj hj=>?_)) λF w n' m xs hx=>Vb (λj hj=>?_) hx
    ·match j,hj with
     |0,_=>exact(hp.1).2
     |1,_=>exact(hp.2.1).2
     |2,_=>exact(hp.2.2.1).2
     |3,_=>exact(hp.2.2.2.1).2
     |4,_=>exact(hp.2.2.2.2.1).2
     |5,_=>exact(hp.2.2.2.2.2).2
    ·match j,hj with
     |0,_=>exact(hp.1).1
     |1,_=>exact(hp.2.1).1
     |2,_=>exact(hp.2.2.1).1
     |3,_=>exact(hp.2.2.2.1).1
     |4,_=>exact(hp.2.2.2.2.1).1
     |5,_=>exact(hp.2.2.2.2.2).1
  ·cases h
 ·rename_i h
  split at h
  ·rename_i n get
   cases hb:zq n 6<;>rw[hb]at h<;>cases h
  ·cases h
 ·trivial
def c_gm7(GM:Zb->Zb->Zb->Zb->Zb->Zb->Zb->Bool):Con:={ g:=113,al:=ze,ans:=λx=>match x with
 | .cons (.rsl _ 1 n get) .nil=>bif zq n 7 then zi (.where_ (YZ (get 0)/\YZ (get 1)/\YZ (get 2)/\YZ (get 3)/\YZ (get 4)/\YZ (get 5)/\YZ (get 6)) (.bool za (GM (ZX (get 0)) (ZX (get 1)) (ZX (get 2)) (ZX (get 3)) (ZX (get 4)) (ZX (get 5)) (ZX (get 6)))))else zm
 |_=>zm }
def row7(e0:Zb)(e1:Zb)(e2:Zb)(e3:Zb)(e4:Zb)(e5:Zb)(e6:Zb):Nat->Zb:=λj=>match j with
 |0=>e0
 |1=>e1
 |2=>e2
 |3=>e3
 |4=>e4
 |5=>e5
 |6=>e6
 |_=>e0
theorem c_gm7_ok:(c_gm7 λe0 e1 e2 e3 e4 e5 e6=>Xa 7 (row7 e0 e1 e2 e3 e4 e5 e6)).Ok P:=by
 intro x
 dsimp only[c_gm7]
 split
 ·rename_i v h
  split at h
  ·rename_i n get
   cases hb:zq n 7<;>rw[hb]at h<;>cases h
  ·cases h
 ·rename_i p v h
  split at h
  ·rename_i n get
   cases hb:zq n 7 with
   |false=>rw[hb]at h;cases h
   |true=>
    rw[hb]at h
    injection h with h
    injection h with h1 h2
    subst h1;subst h2
    obtain rfl:=zO hb
    intro hp
    refine Zh.args (Uf 7 (row7 (ZX (get 0)) (ZX (get 1)) (ZX (get 2)) (ZX (get 3)) (ZX (get 4)) (ZX (get 5)) (ZX (get 6))) (by omega) (λj hj=>?_)) λF w n' m xs hx=>Vb (λj hj=>?_) hx
    ·match j,hj with
     |0,_=>exact(hp.1).2
     |1,_=>exact(hp.2.1).2
     |2,_=>exact(hp.2.2.1).2
     |3,_=>exact(hp.2.2.2.1).2
     |4,_=>exact(hp.2.2.2.2.1).2
     |5,_=>exact(hp.2.2.2.2.2.1).2
     |6,_=>exact(hp.2.2.2.2.2.2).2
    ·match j,hj with
     |0,_=>exact(hp.1).1
     |1,_=>exact(hp.2.1).1
     |2,_=>exact(hp.2.2.1).1
     |3,_=>exact(hp.2.2.2.1).1
     |4,_=>exact(hp.2.2.2.2.1).1
     |5,_=>exact(hp.2.2.2.2.2.1).1
     |6,_=>exact(hp.2.2.2.2.2.2).1
  ·cases h
 ·rename_i h
  split at h
  ·rename_i n get
   cases hb:zq n 7<;>rw[hb]at h<;>cases h
  ·cases h
 ·trivial
def c_gm8(GM:Zb->Zb->Zb->Zb->Zb->Zb->Zb->Zb->Bool):Con:={ g:=113,al:=ze,ans:=λx=>match x with
 | .cons (.rsl _ 1 n get) .nil=>bif zq n 8 then zi (.where_ (YZ (get 0)/\YZ (get 1)/\YZ (get 2)/\YZ (get 3)/\YZ (get 4)/\YZ (get 5)/\YZ (get 6)/\YZ (get 7)) (.bool za (GM (ZX (get 0)) (ZX (get 1)) (ZX (get 2)) (ZX (get 3)) (ZX (get 4)) (ZX (get 5)) (ZX (get 6)) (ZX (get 7)))))else zm
 |_=>zm }
def row8(e0:Zb)(e1:Zb)(e2:Zb)(e3:Zb)(e4:Zb)(e5:Zb)(e6:Zb)(e7:Zb):Nat->Zb:=λj=>match j with
 |0=>e0
 |1=>e1
 |2=>e2
 |3=>e3
 |4=>e4
 |5=>e5
 |6=>e6
 |7=>e7
 |_=>e0
theorem c_gm8_ok:(c_gm8 λe0 e1 e2 e3 e4 e5 e6 e7=>Xa 8 (row8 e0 e1 e2 e3 e4 e5 e6 e7)).Ok P:=by
 intro x
 dsimp only[c_gm8]
 split
 ·rename_i v h
  split at h
  ·rename_i n get
   cases hb:zq n 8<;>rw[hb]at h<;>cases h
  ·cases h
 ·rename_i p v h
  split at h
  ·rename_i n get
   cases hb:zq n 8 with
   |false=>rw[hb]at h;cases h
   |true=>
    rw[hb]at h
    injection h with h
    injection h with h1 h2
    subst h1;subst h2
    obtain rfl:=zO hb
    intro hp
    refine Zh.args (Uf 8 (row8 (ZX (get 0)) (ZX (get 1)) (ZX (get 2)) (ZX (get 3)) (ZX (get 4)) (ZX (get 5)) (ZX (get 6)) (ZX (get 7))) (by omega) (λj hj=>?_)) λF w n' m xs hx=>Vb (λj hj=>?_) hx
    ·match j,hj with
     |0,_=>exact(hp.1).2
     |1,_=>exact(hp.2.1).2
     |2,_=>exact(hp.2.2.1).2
     |3,_=>exact(hp.2.2.2.1).2
     |4,_=>exact(hp.2.2.2.2.1).2
     |5,_=>exact(hp.2.2.2.2.2.1).2
     |6,_=>exact(hp.2.2.2.2.2.2.1).2
     |7,_=>exact(hp.2.2.2.2.2.2.2).2
    ·match j,hj with
     |0,_=>exact(hp.1).1
     |1,_=>exact(hp.2.1).1
     |2,_=>exact(hp.2.2.1).1
     |3,_=>exact(hp.2.2.2.1).1
     |4,_=>exact(hp.2.2.2.2.1).1
     |5,_=>exact(hp.2.2.2.2.2.1).1
     |6,_=>exact(hp.2.2.2.2.2.2.1).1
     |7,_=>exact(hp.2.2.2.2.2.2.2).1
  ·cases h
 ·rename_i h
  split at h
  ·rename_i n get
   cases hb:zq n 8<;>rw[hb]at h<;>cases h
  ·cases h
 ·trivial
def YT(x:Int):Bool:=bif zD yD ((yF (yc (zY yD) x&&& ~~~yc (zY yD) (255:Int)):Nat):Int) != (0:Int)then ze else za
def lsR(LN:Int->Nat)(LI:Int->Nat->DT3)(x:Int):Zb:=Zb.mk (LN x) λk=>DT3.mk (DT3.f0 (LI x k))
def lsV(LN:Int->Nat)(LI:Int->Nat->DT3)(x:Int):V:=zl za 1 (LN x) λj=>zf (zn za .i64 (DT3.f0 (LI x j))) zh
def may0_T(LN:Int->Nat)(LI:Int->Nat->DT3)(a:Nat->ZE):Tree V:=
 zw (zC ze ze)
theorem may0_tree(LN:Int->Nat)(LI:Int->Nat->DT3)(a:Nat->ZE):ZT (ZM P [XA LN LI] [112,69]) 400 69 (.cons (.rsl ze 1 0 λj=>Z8 ze (a j)) .nil)=may0_T LN LI a:=by kernel_rfl
def Zge(LN:Int->Nat)(LI:Int->Nat->DT3)(a:Nat->ZE):Bool:=(may0_T LN LI a).join.toBool
theorem may0_gen(LN:Int->Nat)(LI:Int->Nat->DT3)(a:Nat->ZE)(hL:(XA LN LI).Ok P)(hR:∀s,rowOk ⟨LN s,λk=>LI s k⟩)(hs:∀j,j<0->0<=(a j).f0/\(a j).f0<4294967296):Zh P 69 (.cons (.rsl ze 1 0 λj=>Z8 ze (a j)) .nil) (.bool za (Zge LN LI a)):=
 Xn (Yz hm hn (l:=[XA LN LI]) ⟨hL,trivial⟩) 400 (Has.of hn Tryz.func69 rfl) (may0_tree LN LI a) (Tree.Pre.mk yj) (by kernel_rfl) (by kernel_rfl)
def may0(a:Nat->ZE):Bool:=Zge (λs=>Xf s.toNat) (λs=>Xb s.toNat) a
theorem Zqz(a:Nat->ZE)(hs:∀j,j<0->0<=(a j).f0/\(a j).f0<4294967296):Zh P 69 (.cons (.rsl ze 1 0 λj=>Z8 ze (a j)) .nil) (.bool za (may0 a)):=may0_gen (λs=>Xf s.toNat) (λs=>Xb s.toNat) a Vg (λs=>VO _) hs
def may1_T(LN:Int->Nat)(LI:Int->Nat->DT3)(GM:Zb->Bool)(a:Nat->ZE):Tree V:=
 zB (YT (a 0).f0) (zw (zC ze za)) (zu (zf (zn za .u32 (a 0).f0) zh=zf (zn za .u32 (a 0).f0) zh/\(0:Int)<=(a (0)).f0/\(a (0)).f0<(256:Int)) (zu (zf (lsV LN LI (a 0).f0) zh=zf (lsV LN LI (a 0).f0) zh/\rowOk (lsR LN LI (a 0).f0)) (zw (zC za (GM (lsR LN LI (a 0).f0))))))
theorem may1_tree(LN:Int->Nat)(LI:Int->Nat->DT3)(GM:Zb->Bool)(a:Nat->ZE):ZT (ZM P [XA LN LI,c_gm1 GM] [112,69]) 400 69 (.cons (.rsl ze 1 1 λj=>Z8 ze (a j)) .nil)=may1_T LN LI GM a:=by kernel_rfl
def Zgf(LN:Int->Nat)(LI:Int->Nat->DT3)(GM:Zb->Bool)(a:Nat->ZE):Bool:=(may1_T LN LI GM a).join.toBool
theorem may1_gen(LN:Int->Nat)(LI:Int->Nat->DT3)(GM:Zb->Bool)(a:Nat->ZE)(hL:(XA LN LI).Ok P)(hG:(c_gm1 GM).Ok P)(hR:∀s,rowOk ⟨LN s,λk=>LI s k⟩)(hs:∀j,j<1->0<=(a j).f0/\(a j).f0<4294967296):Zh P 69 (.cons (.rsl ze 1 1 λj=>Z8 ze (a j)) .nil) (.bool za (Zgf LN LI GM a)):=
 Xn (Yz hm hn (l:=[XA LN LI,c_gm1 GM]) ⟨hL,hG,trivial⟩) 400 (Has.of hn Tryz.func69 rfl) (may1_tree LN LI GM a) (Tree.Pre.mk (zy (λ_=>yj) (λhb0=>(zy (by first|exact⟨rfl,Yy (hs 0 (by omega)) hb0⟩|exact⟨rfl,hR _⟩) (zy (by first|exact⟨rfl,Yy (hs 0 (by omega)) hb0⟩|exact⟨rfl,hR _⟩) yj))))) (by kernel_rfl) (by kernel_rfl)
def may1(a:Nat->ZE):Bool:=Zgf (λs=>Xf s.toNat) (λs=>Xb s.toNat) (λe0=>Xa 1 (row1 e0)) a
theorem ZqA(a:Nat->ZE)(hs:∀j,j<1->0<=(a j).f0/\(a j).f0<4294967296):Zh P 69 (.cons (.rsl ze 1 1 λj=>Z8 ze (a j)) .nil) (.bool za (may1 a)):=may1_gen (λs=>Xf s.toNat) (λs=>Xb s.toNat) (λe0=>Xa 1 (row1 e0)) a Vg c_gm1_ok (λs=>VO _) hs
def may2_T(LN:Int->Nat)(LI:Int->Nat->DT3)(GM:Zb->Zb->Bool)(a:Nat->ZE):Tree V:=
 zB (YT (a 0).f0) (zw (zC ze za)) (zu (zf (zn za .u32 (a 0).f0) zh=zf (zn za .u32 (a 0).f0) zh/\(0:Int)<=(a (0)).f0/\(a (0)).f0<(256:Int)) (zB (YT (a 1).f0) (zw (zC ze za)) (zu (zf (zn za .u32 (a 1).f0) zh=zf (zn za .u32 (a 1).f0) zh/\(0:Int)<=(a (0+(1:Nat))).f0/\(a (0+(1:Nat))).f0<(256:Int)) (zu ((zf (lsV LN LI (a 0).f0) zh=zf (lsV LN LI (a 0).f0) zh/\rowOk (lsR LN LI (a 0).f0))/\zf (lsV LN LI (a 1).f0) zh=zf (lsV LN LI (a 1).f0) zh/\rowOk (lsR LN LI (a 1).f0)) (zw (zC za (GM (lsR LN LI (a 0).f0) (lsR LN LI (a 1).f0))))))))
theorem may2_tree(LN:Int->Nat)(LI:Int->Nat->DT3)(GM:Zb->Zb->Bool)(a:Nat->ZE):ZT (ZM P [XA LN LI,c_gm2 GM] [112,69]) 400 69 (.cons (.rsl ze 1 2 λj=>Z8 ze (a j)) .nil)=may2_T LN LI GM a:=by kernel_rfl
def Zgg(LN:Int->Nat)(LI:Int->Nat->DT3)(GM:Zb->Zb->Bool)(a:Nat->ZE):Bool:=(may2_T LN LI GM a).join.toBool
theorem may2_gen(LN:Int->Nat)(LI:Int->Nat->DT3)(GM:Zb->Zb->Bool)(a:Nat->ZE)(hL:(XA LN LI).Ok P)(hG:(c_gm2 GM).Ok P)(hR:∀s,rowOk ⟨LN s,λk=>LI s k⟩)(hs:∀j,j<2->0<=(a j).f0/\(a j).f0<4294967296):Zh P 69 (.cons (.rsl ze 1 2 λj=>Z8 ze (a j)) .nil) (.bool za (Zgg LN LI GM a)):=
 Xn (Yz hm hn (l:=[XA LN LI,c_gm2 GM]) ⟨hL,hG,trivial⟩) 400 (Has.of hn Tryz.func69 rfl) (may2_tree LN LI GM a) (Tree.Pre.mk (zy (λ_=>yj) (λhb0=>(zy (by first|exact⟨rfl,Yy (hs 0 (by omega)) hb0⟩|exact⟨⟨rfl,hR _⟩,⟨rfl,hR _⟩⟩) (zy (λ_=>yj) (λhb1=>(zy (by first|exact⟨rfl,Yy (hs 1 (by omega)) hb1⟩|exact⟨⟨rfl,hR _⟩,⟨rfl,hR _⟩⟩) (zy (by first|exact⟨rfl,Yy (hs 1 (by omega)) hb1⟩|exact⟨⟨rfl,hR _⟩,⟨rfl,hR _⟩⟩) yj)))))))) (by kernel_rfl) (by kernel_rfl)
def may2(a:Nat->ZE):Bool:=Zgg (λs=>Xf s.toNat) (λs=>Xb s.toNat) (λe0 e1=>Xa 2 (Jy e0 e1)) a
theorem ZqB(a:Nat->ZE)(hs:∀j,j<2->0<=(a j).f0/\(a j).f0<4294967296):Zh P 69 (.cons (.rsl ze 1 2 λj=>Z8 ze (a j)) .nil) (.bool za (may2 a)):=may2_gen (λs=>Xf s.toNat) (λs=>Xb s.toNat) (λe0 e1=>Xa 2 (Jy e0 e1)) a Vg c_gm2_ok (λs=>VO _) hs
def may3_T(LN:Int->Nat)(LI:Int->Nat->DT3)(GM:Zb->Zb->Zb->Bool)(a:Nat->ZE):Tree V:=
 let q0:=(zw (zC ze za))
 zB (YT (a 0).f0) q0 (zu (zf (zn za .u32 (a 0).f0) zh=zf (zn za .u32 (a 0).f0) zh/\(0:Int)<=(a (0)).f0/\(a (0)).f0<(256:Int)) (zB (YT (a 1).f0) q0 (zu (zf (zn za .u32 (a 1).f0) zh=zf (zn za .u32 (a 1).f0) zh/\(0:Int)<=(a (0+(1:Nat))).f0/\(a (0+(1:Nat))).f0<(256:Int)) (zB (YT (a 2).f0) q0 (zu (zf (zn za .u32 (a 2).f0) zh=zf (zn za .u32 (a 2).f0) zh/\(0:Int)<=(a (1+(1:Nat))).f0/\(a (1+(1:Nat))).f0<(256:Int)) (zu ((zf (lsV LN LI (a 0).f0) zh=zf (lsV LN LI (a 0).f0) zh/\rowOk (lsR LN LI (a 0).f0))/\(zf (lsV LN LI (a 1).f0) zh=zf (lsV LN LI (a 1).f0) zh/\rowOk (lsR LN LI (a 1).f0))/\zf (lsV LN LI (a 2).f0) zh=zf (lsV LN LI (a 2).f0) zh/\rowOk (lsR LN LI (a 2).f0)) (zw (zC za (GM (lsR LN LI (a 0).f0) (lsR LN LI (a 1).f0) (lsR LN LI (a 2).f0))))))))))
theorem may3_tree(LN:Int->Nat)(LI:Int->Nat->DT3)(GM:Zb->Zb->Zb->Bool)(a:Nat->ZE):ZT (ZM P [XA LN LI,c_gm3 GM] [112,69]) 400 69 (.cons (.rsl ze 1 3 λj=>Z8 ze (a j)) .nil)=may3_T LN LI GM a:=by kernel_rfl
def Zgh(LN:Int->Nat)(LI:Int->Nat->DT3)(GM:Zb->Zb->Zb->Bool)(a:Nat->ZE):Bool:=(may3_T LN LI GM a).join.toBool
theorem may3_gen(LN:Int->Nat)(LI:Int->Nat->DT3)(GM:Zb->Zb->Zb->Bool)(a:Nat->ZE)(hL:(XA LN LI).Ok P)(hG:(c_gm3 GM).Ok P)(hR:∀s,rowOk ⟨LN s,λk=>LI s k⟩)(hs:∀j,j<3->0<=(a j).f0/\(a j).f0<4294967296):Zh P 69 (.cons (.rsl ze 1 3 λj=>Z8 ze (a j)) .nil) (.bool za (Zgh LN LI GM a)):=
 Xn (Yz hm hn (l:=[XA LN LI,c_gm3 GM]) ⟨hL,hG,trivial⟩) 400 (Has.of hn Tryz.func69 rfl) (may3_tree LN LI GM a) (Tree.Pre.mk (zy (λ_=>yj) (λhb0=>(zy (by first|exact⟨rfl,Yy (hs 0 (by omega)) hb0⟩|exact⟨⟨rfl,hR _⟩,⟨rfl,hR _⟩,⟨rfl,hR _⟩⟩) (zy (λ_=>yj) (λhb1=>(zy (by first|exact⟨rfl,Yy (hs 1 (by omega)) hb1⟩|exact⟨⟨rfl,hR _⟩,⟨rfl,hR _⟩,⟨rfl,hR _⟩⟩) (zy (λ_=>yj) (λhb2=>(zy (by first|exact⟨rfl,Yy (hs 2 (by omega)) hb2⟩|exact⟨⟨rfl,hR _⟩,⟨rfl,hR _⟩,⟨rfl,hR _⟩⟩) (zy (by first|exact⟨rfl,Yy (hs 2 (by omega)) hb2⟩|exact⟨⟨rfl,hR _⟩,⟨rfl,hR _⟩,⟨rfl,hR _⟩⟩) yj))))))))))) (by kernel_rfl) (by kernel_rfl)
def may3(a:Nat->ZE):Bool:=Zgh (λs=>Xf s.toNat) (λs=>Xb s.toNat) (λe0 e1 e2=>Xa 3 (row3 e0 e1 e2)) a
theorem ZqC(a:Nat->ZE)(hs:∀j,j<3->0<=(a j).f0/\(a j).f0<4294967296):Zh P 69 (.cons (.rsl ze 1 3 λj=>Z8 ze (a j)) .nil) (.bool za (may3 a)):=may3_gen (λs=>Xf s.toNat) (λs=>Xb s.toNat) (λe0 e1 e2=>Xa 3 (row3 e0 e1 e2)) a Vg c_gm3_ok (λs=>VO _) hs
def may4_T(LN:Int->Nat)(LI:Int->Nat->DT3)(GM:Zb->Zb->Zb->Zb->Bool)(a:Nat->ZE):Tree V:=
 let q0:=(zw (zC ze za))
 zB (YT (a 0).f0) q0 (zu (zf (zn za .u32 (a 0).f0) zh=zf (zn za .u32 (a 0).f0) zh/\(0:Int)<=(a (0)).f0/\(a (0)).f0<(256:Int)) (zB (YT (a 1).f0) q0 (zu (zf (zn za .u32 (a 1).f0) zh=zf (zn za .u32 (a 1).f0) zh/\(0:Int)<=(a (0+(1:Nat))).f0/\(a (0+(1:Nat))).f0<(256:Int)) (zB (YT (a 2).f0) q0 (zu (zf (zn za .u32 (a 2).f0) zh=zf (zn za .u32 (a 2).f0) zh/\(0:Int)<=(a (1+(1:Nat))).f0/\(a (1+(1:Nat))).f0<(256:Int)) (zB (YT (a 3).f0) q0 (zu (zf (zn za .u32 (a 3).f0) zh=zf (zn za .u32 (a 3).f0) zh/\(0:Int)<=(a (2+(1:Nat))).f0/\(a (2+(1:Nat))).f0<(256:Int)) (zu ((zf (lsV LN LI (a 0).f0) zh=zf (lsV LN LI (a 0).f0) zh/\rowOk (lsR LN LI (a 0).f0))/\(zf (lsV LN LI (a 1).f0) zh=zf (lsV LN LI (a 1).f0) zh/\rowOk (lsR LN LI (a 1).f0))/\(zf (lsV LN LI (a 2).f0) zh=zf (lsV LN LI (a 2).f0) zh/\rowOk (lsR LN LI (a 2).f0))/\zf (lsV LN LI (a 3).f0) zh=zf (lsV LN LI (a 3).f0) zh/\rowOk (lsR LN LI (a 3).f0)) (zw (zC za (GM (lsR LN LI (a 0).f0) (lsR LN LI (a 1).f0) (lsR LN LI (a 2).f0) (lsR LN LI (a 3).f0))))))))))))
theorem may4_tree(LN:Int->Nat)(LI:Int->Nat->DT3)(GM:Zb->Zb->Zb->Zb->Bool)(a:Nat->ZE):ZT (ZM P [XA LN LI,c_gm4 GM] [112,69]) 400 69 (.cons (.rsl ze 1 4 λj=>Z8 ze (a j)) .nil)=may4_T LN LI GM a:=by kernel_rfl
def Zgi(LN:Int->Nat)(LI:Int->Nat->DT3)(GM:Zb->Zb->Zb->Zb->Bool)(a:Nat->ZE):Bool:=(may4_T LN LI GM a).join.toBool
theorem may4_gen(LN:Int->Nat)(LI:Int->Nat->DT3)(GM:Zb->Zb->Zb->Zb->Bool)(a:Nat->ZE)(hL:(XA LN LI).Ok P)(hG:(c_gm4 GM).Ok P)(hR:∀s,rowOk ⟨LN s,λk=>LI s k⟩)(hs:∀j,j<4->0<=(a j).f0/\(a j).f0<4294967296):Zh P 69 (.cons (.rsl ze 1 4 λj=>Z8 ze (a j)) .nil) (.bool za (Zgi LN LI GM a)):=
 Xn (Yz hm hn (l:=[XA LN LI,c_gm4 GM]) ⟨hL,hG,trivial⟩) 400 (Has.of hn Tryz.func69 rfl) (may4_tree LN LI GM a) (Tree.Pre.mk (zy (λ_=>yj) (λhb0=>(zy (by first|exact⟨rfl,Yy (hs 0 (by omega)) hb0⟩|exact⟨⟨rfl,hR _⟩,⟨rfl,hR _⟩,⟨rfl,hR _⟩,⟨rfl,hR _⟩⟩) (zy (λ_=>yj) (λhb1=>(zy (by first|exact⟨rfl,Yy (hs 1 (by omega)) hb1⟩|exact⟨⟨rfl,hR _⟩,⟨rfl,hR _⟩,⟨rfl,hR _⟩,⟨rfl,hR _⟩⟩) (zy (λ_=>yj) (λhb2=>(zy (by first|exact⟨rfl,Yy (hs 2 (by omega)) hb2⟩|exact⟨⟨rfl,hR _⟩,⟨rfl,hR _⟩,⟨rfl,hR _⟩,⟨rfl,hR _⟩⟩) (zy (λ_=>yj) (λhb3=>(zy (by first|exact⟨rfl,Yy (hs 3 (by omega)) hb3⟩|exact⟨⟨rfl,hR _⟩,⟨rfl,hR _⟩,⟨rfl,hR _⟩,⟨rfl,hR _⟩⟩) (zy (by first|exact⟨rfl,Yy (hs 3 (by omega)) hb3⟩|exact⟨⟨rfl,hR _⟩,⟨rfl,hR _⟩,⟨rfl,hR _⟩,⟨rfl,hR _⟩⟩) yj)))))))))))))) (by kernel_rfl) (by kernel_rfl)
def may4(a:Nat->ZE):Bool:=Zgi (λs=>Xf s.toNat) (λs=>Xb s.toNat) (λe0 e1 e2 e3=>Xa 4 (row4 e0 e1 e2 e3)) a
theorem ZqD(a:Nat->ZE)(hs:∀j,j<4->0<=(a j).f0/\(a j).f0<4294967296):Zh P 69 (.cons (.rsl ze 1 4 λj=>Z8 ze (a j)) .nil) (.bool za (may4 a)):=may4_gen (λs=>Xf s.toNat) (λs=>Xb s.toNat) (λe0 e1 e2 e3=>Xa 4 (row4 e0 e1 e2 e3)) a Vg c_gm4_ok (λs=>VO _) hs
def may5_T(LN:Int->Nat)(LI:Int->Nat->DT3)(GM:Zb->Zb->Zb->Zb->Zb->Bool)(a:Nat->ZE):Tree V:=
 let q0:=(zw (zC ze za))
 zB (YT (a 0).f0) q0 (zu (zf (zn za .u32 (a 0).f0) zh=zf (zn za .u32 (a 0).f0) zh/\(0:Int)<=(a (0)).f0/\(a (0)).f0<(256:Int)) (zB (YT (a 1).f0) q0 (zu (zf (zn za .u32 (a 1).f0) zh=zf (zn za .u32 (a 1).f0) zh/\(0:Int)<=(a (0+(1:Nat))).f0/\(a (0+(1:Nat))).f0<(256:Int)) (zB (YT (a 2).f0) q0 (zu (zf (zn za .u32 (a 2).f0) zh=zf (zn za .u32 (a 2).f0) zh/\(0:Int)<=(a (1+(1:Nat))).f0/\(a (1+(1:Nat))).f0<(256:Int)) (zB (YT (a 3).f0) q0 (zu (zf (zn za .u32 (a 3).f0) zh=zf (zn za .u32 (a 3).f0) zh/\(0:Int)<=(a (2+(1:Nat))).f0/\(a (2+(1:Nat))).f0<(256:Int)) (zB (YT (a 4).f0) q0 (zu (zf (zn za .u32 (a 4).f0) zh=zf (zn za .u32 (a 4).f0) zh/\(0:Int)<=(a (3+(1:Nat))).f0/\(a (3+(1:Nat))).f0<(256:Int)) (zu ((zf (lsV LN LI (a 0).f0) zh=zf (lsV LN LI (a 0).f0) zh/\rowOk (lsR LN LI (a 0).f0))/\(zf (lsV LN LI (a 1).f0) zh=zf (lsV LN LI (a 1).f0) zh/\rowOk (lsR LN LI (a 1).f0))/\(zf (lsV LN LI (a 2).f0) zh=zf (lsV LN LI (a 2).f0) zh/\rowOk (lsR LN LI (a 2).f0))/\(zf (lsV LN LI (a 3).f0) zh=zf (lsV LN LI (a 3).f0) zh/\rowOk (lsR LN LI (a 3).f0))/\zf (lsV LN LI (a 4).f0) zh=zf (lsV LN LI (a 4).f0) zh/\rowOk (lsR LN LI (a 4).f0)) (zw (zC za (GM (lsR LN LI (a 0).f0) (lsR LN LI (a 1).f0) (lsR LN LI (a 2).f0) (lsR LN LI (a 3).f0) (lsR LN LI (a 4).f0))))))))))))))
theorem may5_tree(LN:Int->Nat)(LI:Int->Nat->DT3)(GM:Zb->Zb->Zb->Zb->Zb->Bool)(a:Nat->ZE):ZT (ZM P [XA LN LI,c_gm5 GM] [112,69]) 400 69 (.cons (.rsl ze 1 5 λj=>Z8 ze (a j)) .nil)=may5_T LN LI GM a:=by kernel_rfl
def Zgj(LN:Int->Nat)(LI:Int->Nat->DT3)(GM:Zb->Zb->Zb->Zb->Zb->Bool)(a:Nat->ZE):Bool:=(may5_T LN LI GM a).join.toBool
theorem may5_gen(LN:Int->Nat)(LI:Int->Nat->DT3)(GM:Zb->Zb->Zb->Zb->Zb->Bool)(a:Nat->ZE)(hL:(XA LN LI).Ok P)(hG:(c_gm5 GM).Ok P)(hR:∀s,rowOk ⟨LN s,λk=>LI s k⟩)(hs:∀j,j<5->0<=(a j).f0/\(a j).f0<4294967296):Zh P 69 (.cons (.rsl ze 1 5 λj=>Z8 ze (a j)) .nil) (.bool za (Zgj LN LI GM a)):=
 Xn (Yz hm hn (l:=[XA LN LI,c_gm5 GM]) ⟨hL,hG,trivial⟩) 400 (Has.of hn Tryz.func69 rfl) (may5_tree LN LI GM a) (Tree.Pre.mk (zy (λ_=>yj) (λhb0=>(zy (by first|exact⟨rfl,Yy (hs 0 (by omega)) hb0⟩|exact⟨⟨rfl,hR _⟩,⟨rfl,hR _⟩,⟨rfl,hR _⟩,⟨rfl,hR _⟩,⟨rfl,hR _⟩⟩) (zy (λ_=>yj) (λhb1=>(zy (by first|exact⟨rfl,Yy (hs 1 (by omega)) hb1⟩|exact⟨⟨rfl,hR _⟩,⟨rfl,hR _⟩,⟨rfl,hR _⟩,⟨rfl,hR _⟩,⟨rfl,hR _⟩⟩) (zy (λ_=>yj) (λhb2=>(zy (by first|exact⟨rfl,Yy (hs 2 (by omega)) hb2⟩|exact⟨⟨rfl,hR _⟩,⟨rfl,hR _⟩,⟨rfl,hR _⟩,⟨rfl,hR _⟩,⟨rfl,hR _⟩⟩) (zy (λ_=>yj) (λhb3=>(zy (by first|exact⟨rfl,Yy (hs 3 (by omega)) hb3⟩|exact⟨⟨rfl,hR _⟩,⟨rfl,hR _⟩,⟨rfl,hR _⟩,⟨rfl,hR _⟩,⟨rfl,hR _⟩⟩) (zy (λ_=>yj) (λhb4=>(zy (by first|exact⟨rfl,Yy (hs 4 (by omega)) hb4⟩|exact⟨⟨rfl,hR _⟩,⟨rfl,hR _⟩,⟨rfl,hR _⟩,⟨rfl,hR _⟩,⟨rfl,hR _⟩⟩) (zy (by first|exact⟨rfl,Yy (hs 4 (by omega)) hb4⟩|exact⟨⟨rfl,hR _⟩,⟨rfl,hR _⟩,⟨rfl,hR _⟩,⟨rfl,hR _⟩,⟨rfl,hR _⟩⟩) yj))))))))))))))))) (by kernel_rfl) (by kernel_rfl)
def may5(a:Nat->ZE):Bool:=Zgj (λs=>Xf s.toNat) (λs=>Xb s.toNat) (λe0 e1 e2 e3 e4=>Xa 5 (row5 e0 e1 e2 e3 e4)) a
theorem ZqE(a:Nat->ZE)(hs:∀j,j<5->0<=(a j).f0/\(a j).f0<4294967296):Zh P 69 (.cons (.rsl ze 1 5 λj=>Z8 ze (a j)) .nil) (.bool za (may5 a)):=may5_gen (λs=>Xf s.toNat) (λs=>Xb s.toNat) (λe0 e1 e2 e3 e4=>Xa 5 (row5 e0 e1 e2 e3 e4)) a Vg c_gm5_ok (λs=>VO _) hs
def may6_T(LN:Int->Nat)(LI:Int->Nat->DT3)(GM:Zb->Zb->Zb->Zb->Zb->Zb->Bool)(a:Nat->ZE):Tree V:=
 let q0:=(zw (zC ze za))
 zB (YT (a 0).f0) q0 (zu (zf (zn za .u32 (a 0).f0) zh=zf (zn za .u32 (a 0).f0) zh/\(0:Int)<=(a (0)).f0/\(a (0)).f0<(256:Int)) (zB (YT (a 1).f0) q0 (zu (zf (zn za .u32 (a 1).f0) zh=zf (zn za .u32 (a 1).f0) zh/\(0:Int)<=(a (0+(1:Nat))).f0/\(a (0+(1:Nat))).f0<(256:Int)) (zB (YT (a 2).f0) q0 (zu (zf (zn za .u32 (a 2).f0) zh=zf (zn za .u32 (a 2).f0) zh/\(0:Int)<=(a (1+(1:Nat))).f0/\(a (1+(1:Nat))).f0<(256:Int)) (zB (YT (a 3).f0) q0 (zu (zf (zn za .u32 (a 3).f0) zh=zf (zn za .u32 (a 3).f0) zh/\(0:Int)<=(a (2+(1:Nat))).f0/\(a (2+(1:Nat))).f0<(256:Int)) (zB (YT (a 4).f0) q0 (zu (zf (zn za .u32 (a 4).f0) zh=zf (zn za .u32 (a 4).f0) zh/\(0:Int)<=(a (3+(1:Nat))).f0/\(a (3+(1:Nat))).f0<(256:Int)) (zB (YT (a 5).f0) q0 (zu (zf (zn za .u32 (a 5).f0) zh=zf (zn za .u32 (a 5).f0) zh/\(0:Int)<=(a (4+(1:Nat))).f0/\(a (4+(1:Nat))).f0<(256:Int)) (zu ((zf (lsV LN LI (a 0).f0) zh=zf (lsV LN LI (a 0).f0) zh/\rowOk (lsR LN LI (a 0).f0))/\(zf (lsV LN LI (a 1).f0) zh=zf (lsV LN LI (a 1).f0) zh/\rowOk (lsR LN LI (a 1).f0))/\(zf (lsV LN LI (a 2).f0) zh=zf (lsV LN LI (a 2).f0) zh/\rowOk (lsR LN LI (a 2).f0))/\(zf (lsV LN LI (a 3).f0) zh=zf (lsV LN LI (a 3).f0) zh/\rowOk (lsR LN LI (a 3).f0))/\(zf (lsV LN LI (a 4).f0) zh=zf (lsV LN LI (a 4).f0) zh/\rowOk (lsR LN LI (a 4).f0))/\zf (lsV LN LI (a 5).f0) zh=zf (lsV LN LI (a 5).f0) zh/\rowOk (lsR LN LI (a 5).f0)) (zw (zC za (GM (lsR LN LI (a 0).f0) (lsR LN LI (a 1).f0) (lsR LN LI (a 2).f0) (lsR LN LI (a 3).f0) (lsR LN LI (a 4).f0) (lsR LN LI (a 5).f0))))))))))))))))
theorem may6_tree(LN:Int->Nat)(LI:Int->Nat->DT3)(GM:Zb->Zb->Zb->Zb->Zb->Zb->Bool)(a:Nat->ZE):ZT (ZM P [XA LN LI,c_gm6 GM] [112,69]) 400 69 (.cons (.rsl ze 1 6 λj=>Z8 ze (a j)) .nil)=may6_T LN LI GM a:=by kernel_rfl
def Zgk(LN:Int->Nat)(LI:Int->Nat->DT3)(GM:Zb->Zb->Zb->Zb->Zb->Zb->Bool)(a:Nat->ZE):Bool:=(may6_T LN LI GM a).join.toBool
theorem may6_gen(LN:Int->Nat)(LI:Int->Nat->DT3)(GM:Zb->Zb->Zb->Zb->Zb->Zb->Bool)(a:Nat->ZE)(hL:(XA LN LI).Ok P)(hG:(c_gm6 GM).Ok P)(hR:∀s,rowOk ⟨LN s,λk=>LI s k⟩)(hs:∀j,j<6->0<=(a j).f0/\(a j).f0<4294967296):Zh P 69 (.cons (.rsl ze 1 6 λj=>Z8 ze (a j)) .nil) (.bool za (Zgk LN LI GM a)):=
 Xn (Yz hm hn (l:=[XA LN LI,c_gm6 GM]) ⟨hL,hG,trivial⟩) 400 (Has.of hn Tryz.func69 rfl) (may6_tree LN LI GM a) (Tree.Pre.mk (zy (λ_=>yj) (λhb0=>(zy (by first|exact⟨rfl,Yy (hs 0 (by omega)) hb0⟩|exact⟨⟨rfl,hR _⟩,⟨rfl,hR _⟩,⟨rfl,hR _⟩,⟨rfl,hR _⟩,⟨rfl,hR _⟩,⟨rfl,hR _⟩⟩) (zy (λ_=>yj) (λhb1=>(zy (by first|exact⟨rfl,Yy (hs 1 (by omega)) hb1⟩|exact⟨⟨rfl,hR _⟩,⟨rfl,hR _⟩,⟨rfl,hR _⟩,⟨rfl,hR _⟩,⟨rfl,hR _⟩,⟨rfl,hR _⟩⟩) (zy (λ_=>yj) (λhb2=>(zy (by first|exact⟨rfl,Yy (hs 2 (by omega)) hb2⟩|exact⟨⟨rfl,hR _⟩,⟨rfl,hR _⟩,⟨rfl,hR _⟩,⟨rfl,hR _⟩,⟨rfl,hR _⟩,⟨rfl,hR _⟩⟩) (zy (λ_=>yj) (λhb3=>(zy (by first|exact⟨rfl,Yy (hs 3 (by omega)) hb3⟩|exact⟨⟨rfl,hR _⟩,⟨rfl,hR _⟩,⟨rfl,hR _⟩,⟨rfl,hR _⟩,⟨rfl,hR _⟩,⟨rfl,hR _⟩⟩) (zy (λ_=>yj) (λhb4=>(zy (by first|exact⟨rfl,Yy (hs 4 (by omega)) hb4⟩|exact⟨⟨rfl,hR _⟩,⟨rfl,hR _⟩,⟨rfl,hR _⟩,⟨rfl,hR _⟩,⟨rfl,hR _⟩,⟨rfl,hR _⟩⟩) (zy (λ_=>yj) (λhb5=>(zy (by first|exact⟨rfl,Yy (hs 5 (by omega)) hb5⟩|exact⟨⟨rfl,hR _⟩,⟨rfl,hR _⟩,⟨rfl,hR _⟩,⟨rfl,hR _⟩,⟨rfl,hR _⟩,⟨rfl,hR _⟩⟩) (zy (by first|exact⟨rfl,Yy (hs 5 (by omega)) hb5⟩|exact⟨⟨rfl,hR _⟩,⟨rfl,hR _⟩,⟨rfl,hR _⟩,⟨rfl,hR _⟩,⟨rfl,hR _⟩,⟨rfl,hR _⟩⟩) yj)))))))))))))))))))) (by kernel_rfl) (by kernel_rfl)
def may6(a:Nat->ZE):Bool:=Zgk (λs=>Xf s.toNat) (λs=>Xb s.toNat) (λe0 e1 e2 e3 e4 e5=>Xa 6 (row6 e0 e1 e2 e3 e4 e5)) a
theorem ZqF(a:Nat->ZE)(hs:∀j,j<6->0<=(a j).f0/\(a j).f0<4294967296):Zh P 69 (.cons (.rsl ze 1 6 λj=>Z8 ze (a j)) .nil) (.bool za (may6 a)):=may6_gen (λs=>Xf s.toNat) (λs=>Xb s.toNat) (λe0 e1 e2 e3 e4 e5=>Xa 6 (row6 e0 e1 e2 e3 e4 e5)) a Vg c_gm6_ok (λs=>VO _) hs
def may7_T(LN:Int->Nat)(LI:Int->Nat->DT3)(GM:Zb->Zb->Zb->Zb->Zb->Zb->Zb->Bool)(a:Nat->ZE):Tree V:=
 let q0:=(zw (zC ze za))
 zB (YT (a 0).f0) q0 (zu (zf (zn za .u32 (a 0).f0) zh=zf (zn za .u32 (a 0).f0) zh/\(0:Int)<=(a (0)).f0/\(a (0)).f0<(256:Int)) (zB (YT (a 1).f0) q0 (zu (zf (zn za .u32 (a 1).f0) zh=zf (zn za .u32 (a 1).f0) zh/\(0:Int)<=(a (0+(1:Nat))).f0/\(a (0+(1:Nat))).f0<(256:Int)) (zB (YT (a 2).f0) q0 (zu (zf (zn za .u32 (a 2).f0) zh=zf (zn za .u32 (a 2).f0) zh/\(0:Int)<=(a (1+(1:Nat))).f0/\(a (1+(1:Nat))).f0<(256:Int)) (zB (YT (a 3).f0) q0 (zu (zf (zn za .u32 (a 3).f0) zh=zf (zn za .u32 (a 3).f0) zh/\(0:Int)<=(a (2+(1:Nat))).f0/\(a (2+(1:Nat))).f0<(256:Int)) (zB (YT (a 4).f0) q0 (zu (zf (zn za .u32 (a 4).f0) zh=zf (zn za .u32 (a 4).f0) zh/\(0:Int)<=(a (3+(1:Nat))).f0/\(a (3+(1:Nat))).f0<(256:Int)) (zB (YT (a 5).f0) q0 (zu (zf (zn za .u32 (a 5).f0) zh=zf (zn za .u32 (a 5).f0) zh/\(0:Int)<=(a (4+(1:Nat))).f0/\(a (4+(1:Nat))).f0<(256:Int)) (zB (YT (a 6).f0) q0 (zu (zf (zn za .u32 (a 6).f0) zh=zf (zn za .u32 (a 6).f0) zh/\(0:Int)<=(a (5+(1:Nat))).f0/\(a (5+(1:Nat))).f0<(256:Int)) (zu ((zf (lsV LN LI (a 0).f0) zh=zf (lsV LN LI (a 0).f0) zh/\rowOk (lsR LN LI (a 0).f0))/\(zf (lsV LN LI (a 1).f0) zh=zf (lsV LN LI (a 1).f0) zh/\rowOk (lsR LN LI (a 1).f0))/\(zf (lsV LN LI (a 2).f0) zh=zf (lsV LN LI (a 2).f0) zh/\rowOk (lsR LN LI (a 2).f0))/\(zf (lsV LN LI (a 3).f0) zh=zf (lsV LN LI (a 3).f0) zh/\rowOk (lsR LN LI (a 3).f0))/\(zf (lsV LN LI (a 4).f0) zh=zf (lsV LN LI (a 4).f0) zh/\rowOk (lsR LN LI (a 4).f0))/\(zf (lsV LN LI (a 5).f0) zh=zf (lsV LN LI (a 5).f0) zh/\rowOk (lsR LN LI (a 5).f0))/\zf (lsV LN LI (a 6).f0) zh=zf (lsV LN LI (a 6).f0) zh/\rowOk (lsR LN LI (a 6).f0)) (zw (zC za (GM (lsR LN LI (a 0).f0) (lsR LN LI (a 1).f0) (lsR LN LI (a 2).f0) (lsR LN LI (a 3).f0) (lsR LN LI (a 4).f0) (lsR LN LI (a 5).f0) (lsR LN LI (a 6).f0))))))))))))))))))
theorem may7_tree(LN:Int->Nat)(LI:Int->Nat->DT3)(GM:Zb->Zb->Zb->Zb->Zb->Zb->Zb->Bool)(a:Nat->ZE):ZT (ZM P [XA LN LI,c_gm7 GM] [112,69]) 400 69 (.cons (.rsl ze 1 7 λj=>Z8 ze (a j)) .nil)=may7_T LN LI GM a:=by kernel_rfl
def Zgl(LN:Int->Nat)(LI:Int->Nat->DT3)(GM:Zb->Zb->Zb->Zb->Zb->Zb->Zb->Bool)(a:Nat->ZE):Bool:=(may7_T LN LI GM a).join.toBool
theorem may7_gen(LN:Int->Nat)(LI:Int->Nat->DT3)(GM:Zb->Zb->Zb->Zb->Zb->Zb->Zb->Bool)(a:Nat->ZE)(hL:(XA LN LI).Ok P)(hG:(c_gm7 GM).Ok P)(hR:∀s,rowOk ⟨LN s,λk=>LI s k⟩)(hs:∀j,j<7->0<=(a j).f0/\(a j).f0<4294967296):Zh P 69 (.cons (.rsl ze 1 7 λj=>Z8 ze (a j)) .nil) (.bool za (Zgl LN LI GM a)):=
 Xn (Yz hm hn (l:=[XA LN LI,c_gm7 GM]) ⟨hL,hG,trivial⟩) 400 (Has.of hn Tryz.func69 rfl) (may7_tree LN LI GM a) (Tree.Pre.mk (zy (λ_=>yj) (λhb0=>(zy (by first|exact⟨rfl,Yy (hs 0 (by omega)) hb0⟩|exact⟨⟨rfl,hR _⟩,⟨rfl,hR _⟩,⟨rfl,hR _⟩,⟨rfl,hR _⟩,⟨rfl,hR _⟩,⟨rfl,hR _⟩,⟨rfl,hR _⟩⟩) (zy (λ_=>yj) (λhb1=>(zy (by first|exact⟨rfl,Yy (hs 1 (by omega)) hb1⟩|exact⟨⟨rfl,hR _⟩,⟨rfl,hR _⟩,⟨rfl,hR _⟩,⟨rfl,hR _⟩,⟨rfl,hR _⟩,⟨rfl,hR _⟩,⟨rfl,hR _⟩⟩) (zy (λ_=>yj) (λhb2=>(zy (by first|exact⟨rfl,Yy (hs 2 (by omega)) hb2⟩|exact⟨⟨rfl,hR _⟩,⟨rfl,hR _⟩,⟨rfl,hR _⟩,⟨rfl,hR _⟩,⟨rfl,hR _⟩,⟨rfl,hR _⟩,⟨rfl,hR _⟩⟩) (zy (λ_=>yj) (λhb3=>(zy (by first|exact⟨rfl,Yy (hs 3 (by omega)) hb3⟩|exact⟨⟨rfl,hR _⟩,⟨rfl,hR _⟩,⟨rfl,hR _⟩,⟨rfl,hR _⟩,⟨rfl,hR _⟩,⟨rfl,hR _⟩,⟨rfl,hR _⟩⟩) (zy (λ_=>yj) (λhb4=>(zy (by first|exact⟨rfl,Yy (hs 4 (by omega)) hb4⟩|exact⟨⟨rfl,hR _⟩,⟨rfl,hR _⟩,⟨rfl,hR _⟩,⟨rfl,hR _⟩,⟨rfl,hR _⟩,⟨rfl,hR _⟩,⟨rfl,hR _⟩⟩) (zy (λ_=>yj) (λhb5=>(zy (by first|exact⟨rfl,Yy (hs 5 (by omega)) hb5⟩|exact⟨⟨rfl,hR _⟩,⟨rfl,hR _⟩,⟨rfl,hR _⟩,⟨rfl,hR _⟩,⟨rfl,hR _⟩,⟨rfl,hR _⟩,⟨rfl,hR _⟩⟩) (zy (λ_=>yj) (λhb6=>(zy (by first|exact⟨rfl,Yy (hs 6 (by omega)) hb6⟩|exact⟨⟨rfl,hR _⟩,⟨rfl,hR _⟩,⟨rfl,hR _⟩,⟨rfl,hR _⟩,⟨rfl,hR _⟩,⟨rfl,hR _⟩,⟨rfl,hR _⟩⟩) (zy (by first|exact⟨rfl,Yy (hs 6 (by omega)) hb6⟩|exact⟨⟨rfl,hR _⟩,⟨rfl,hR _⟩,⟨rfl,hR _⟩,⟨rfl,hR _⟩,⟨rfl,hR _⟩,⟨rfl,hR _⟩,⟨rfl,hR _⟩⟩) yj))))))))))))))))))))))) (by kernel_rfl) (by kernel_rfl)
def may7(a:Nat->ZE):Bool:=Zgl (λs=>Xf s.toNat) (λs=>Xb s.toNat) (λe0 e1 e2 e3 e4 e5 e6=>Xa 7 (row7 e0 e1 e2 e3 e4 e5 e6)) a
theorem ZqG(a:Nat->ZE)(hs:∀j,j<7->0<=(a j).f0/\(a j).f0<4294967296):Zh P 69 (.cons (.rsl ze 1 7 λj=>Z8 ze (a j)) .nil) (.bool za (may7 a)):=may7_gen (λs=>Xf s.toNat) (λs=>Xb s.toNat) (λe0 e1 e2 e3 e4 e5 e6=>Xa 7 (row7 e0 e1 e2 e3 e4 e5 e6)) a Vg c_gm7_ok (λs=>VO _) hs
def may8_T(LN:Int->Nat)(LI:Int->Nat->DT3)(GM:Zb->Zb->Zb->Zb->Zb->Zb->Zb->Zb->Bool)(a:Nat->ZE):Tree V:=
 let q0:=(zw (zC ze za))
 zB (YT (a 0).f0) q0 (zu (zf (zn za .u32 (a 0).f0) zh=zf (zn za .u32 (a 0).f0) zh/\(0:Int)<=(a (0)).f0/\(a (0)).f0<(256:Int)) (zB (YT (a 1).f0) q0 (zu (zf (zn za .u32 (a 1).f0) zh=zf (zn za .u32 (a 1).f0) zh/\(0:Int)<=(a (0+(1:Nat))).f0/\(a (0+(1:Nat))).f0<(256:Int)) (zB (YT (a 2).f0) q0 (zu (zf (zn za .u32 (a 2).f0) zh=zf (zn za .u32 (a 2).f0) zh/\(0:Int)<=(a (1+(1:Nat))).f0/\(a (1+(1:Nat))).f0<(256:Int)) (zB (YT (a 3).f0) q0 (zu (zf (zn za .u32 (a 3).f0) zh=zf (zn za .u32 (a 3).f0) zh/\(0:Int)<=(a (2+(1:Nat))).f0/\(a (2+(1:Nat))).f0<(256:Int)) (zB (YT (a 4).f0) q0 (zu (zf (zn za .u32 (a 4).f0) zh=zf (zn za .u32 (a 4).f0) zh/\(0:Int)<=(a (3+(1:Nat))).f0/\(a (3+(1:Nat))).f0<(256:Int)) (zB (YT (a 5).f0) q0 (zu (zf (zn za .u32 (a 5).f0) zh=zf (zn za .u32 (a 5).f0) zh/\(0:Int)<=(a (4+(1:Nat))).f0/\(a (4+(1:Nat))).f0<(256:Int)) (zB (YT (a 6).f0) q0 (zu (zf (zn za .u32 (a 6).f0) zh=zf (zn za .u32 (a 6).f0) zh/\(0:Int)<=(a (5+(1:Nat))).f0/\(a (5+(1:Nat))).f0<(256:Int)) (zB (YT (a 7).f0) q0 (zu (zf (zn za .u32 (a 7).f0) zh=zf (zn za .u32 (a 7).f0) zh/\(0:Int)<=(a (6+(1:Nat))).f0/\(a (6+(1:Nat))).f0<(256:Int)) (zu ((zf (lsV LN LI (a 0).f0) zh=zf (lsV LN LI (a 0).f0) zh/\rowOk (lsR LN LI (a 0).f0))/\(zf (lsV LN LI (a 1).f0) zh=zf (lsV LN LI (a 1).f0) zh/\rowOk (lsR LN LI (a 1).f0))/\(zf (lsV LN LI (a 2).f0) zh=zf (lsV LN LI (a 2).f0) zh/\rowOk (lsR LN LI (a 2).f0))/\(zf (lsV LN LI (a 3).f0) zh=zf (lsV LN LI (a 3).f0) zh/\rowOk (lsR LN LI (a 3).f0))/\(zf (lsV LN LI (a 4).f0) zh=zf (lsV LN LI (a 4).f0) zh/\rowOk (lsR LN LI (a 4).f0))/\(zf (lsV LN LI (a 5).f0) zh=zf (lsV LN LI (a 5).f0) zh/\rowOk (lsR LN LI (a 5).f0))/\(zf (lsV LN LI (a 6).f0) zh=zf (lsV LN LI (a 6).f0) zh/\rowOk (lsR LN LI (a 6).f0))/\zf (lsV LN LI (a 7).f0) zh=zf (lsV LN LI (a 7).f0) zh/\rowOk (lsR LN LI (a 7).f0)) (zw (zC za (GM (lsR LN LI (a 0).f0) (lsR LN LI (a 1).f0) (lsR LN LI (a 2).f0) (lsR LN LI (a 3).f0) (lsR LN LI (a 4).f0) (lsR LN LI (a 5).f0) (lsR LN LI (a 6).f0) (lsR LN LI (a 7).f0))))))))))))))))))))
theorem may8_tree(LN:Int->Nat)(LI:Int->Nat->DT3)(GM:Zb->Zb->Zb->Zb->Zb->Zb->Zb->Zb->Bool)(a:Nat->ZE):ZT (ZM P [XA LN LI,c_gm8 GM] [112,69]) 400 69 (.cons (.rsl ze 1 8 λj=>Z8 ze (a j)) .nil)=may8_T LN LI GM a:=by kernel_rfl
def Zgm(LN:Int->Nat)(LI:Int->Nat->DT3)(GM:Zb->Zb->Zb->Zb->Zb->Zb->Zb->Zb->Bool)(a:Nat->ZE):Bool:=(may8_T LN LI GM a).join.toBool
theorem may8_gen(LN:Int->Nat)(LI:Int->Nat->DT3)(GM:Zb->Zb->Zb->Zb->Zb->Zb->Zb->Zb->Bool)(a:Nat->ZE)(hL:(XA LN LI).Ok P)(hG:(c_gm8 GM).Ok P)(hR:∀s,rowOk ⟨LN s,λk=>LI s k⟩)(hs:∀j,j<8->0<=(a j).f0/\(a j).f0<4294967296):Zh P 69 (.cons (.rsl ze 1 8 λj=>Z8 ze (a j)) .nil) (.bool za (Zgm LN LI GM a)):=
 Xn (Yz hm hn (l:=[XA LN LI,c_gm8 GM]) ⟨hL,hG,trivial⟩) 400 (Has.of hn Tryz.func69 rfl) (may8_tree LN LI GM a) (Tree.Pre.mk (zy (λ_=>yj) (λhb0=>(zy (by first|exact⟨rfl,Yy (hs 0 (by omega)) hb0⟩|exact⟨⟨rfl,hR _⟩,⟨rfl,hR _⟩,⟨rfl,hR _⟩,⟨rfl,hR _⟩,⟨rfl,hR _⟩,⟨rfl,hR _⟩,⟨rfl,hR _⟩,⟨rfl,hR _⟩⟩) (zy (λ_=>yj) (λhb1=>(zy (by first|exact⟨rfl,Yy (hs 1 (by omega)) hb1⟩|exact⟨⟨rfl,hR _⟩,⟨rfl,hR _⟩,⟨rfl,hR _⟩,⟨rfl,hR _⟩,⟨rfl,hR _⟩,⟨rfl,hR _⟩,⟨rfl,hR _⟩,⟨rfl,hR _⟩⟩) (zy (λ_=>yj) (λhb2=>(zy (by first|exact⟨rfl,Yy (hs 2 (by omega)) hb2⟩|exact⟨⟨rfl,hR _⟩,⟨rfl,hR _⟩,⟨rfl,hR _⟩,⟨rfl,hR _⟩,⟨rfl,hR _⟩,⟨rfl,hR _⟩,⟨rfl,hR _⟩,⟨rfl,hR _⟩⟩) (zy (λ_=>yj) (λhb3=>(zy (by first|exact⟨rfl,Yy (hs 3 (by omega)) hb3⟩|exact⟨⟨rfl,hR _⟩,⟨rfl,hR _⟩,⟨rfl,hR _⟩,⟨rfl,hR _⟩,⟨rfl,hR _⟩,⟨rfl,hR _⟩,⟨rfl,hR _⟩,⟨rfl,hR _⟩⟩) (zy (λ_=>yj) (λhb4=>(zy (by first|exact⟨rfl,Yy (hs 4 (by omega)) hb4⟩|exact⟨⟨rfl,hR _⟩,⟨rfl,hR _⟩,⟨rfl,hR _⟩,⟨rfl,hR _⟩,⟨rfl,hR _⟩,⟨rfl,hR _⟩,⟨rfl,hR _⟩,⟨rfl,hR _⟩⟩) (zy (λ_=>yj) (λhb5=>(zy (by first|exact⟨rfl,Yy (hs 5 (by omega)) hb5⟩|exact⟨⟨rfl,hR _⟩,⟨rfl,hR _⟩,⟨rfl,hR _⟩,⟨rfl,hR _⟩,⟨rfl,hR _⟩,⟨rfl,hR _⟩,⟨rfl,hR _⟩,⟨rfl,hR _⟩⟩) (zy (λ_=>yj) (λhb6=>(zy (by first|exact⟨rfl,Yy (hs 6 (by omega)) hb6⟩|exact⟨⟨rfl,hR _⟩,⟨rfl,hR _⟩,⟨rfl,hR _⟩,⟨rfl,hR _⟩,⟨rfl,hR _⟩,⟨rfl,hR _⟩,⟨rfl,hR _⟩,⟨rfl,hR _⟩⟩) (zy (λ_=>yj) (λhb7=>(zy (by first|exact⟨rfl,Yy (hs 7 (by omega)) hb7⟩|exact⟨⟨rfl,hR _⟩,⟨rfl,hR _⟩,⟨rfl,hR _⟩,⟨rfl,hR _⟩,⟨rfl,hR _⟩,⟨rfl,hR _⟩,⟨rfl,hR _⟩,⟨rfl,hR _⟩⟩) (zy (by first|exact⟨rfl,Yy (hs 7 (by omega)) hb7⟩|exact⟨⟨rfl,hR _⟩,⟨rfl,hR _⟩,⟨rfl,hR _⟩,⟨rfl,hR _⟩,⟨rfl,hR _⟩,⟨rfl,hR _⟩,⟨rfl,hR _⟩,⟨rfl,hR _⟩⟩) yj)))))))))))))))))))))))))) (by kernel_rfl) (by kernel_rfl)
def may8(a:Nat->ZE):Bool:=Zgm (λs=>Xf s.toNat) (λs=>Xb s.toNat) (λe0 e1 e2 e3 e4 e5 e6 e7=>Xa 8 (row8 e0 e1 e2 e3 e4 e5 e6 e7)) a
theorem ZqH(a:Nat->ZE)(hs:∀j,j<8->0<=(a j).f0/\(a j).f0<4294967296):Zh P 69 (.cons (.rsl ze 1 8 λj=>Z8 ze (a j)) .nil) (.bool za (may8 a)):=may8_gen (λs=>Xf s.toNat) (λs=>Xb s.toNat) (λe0 e1 e2 e3 e4 e5 e6 e7=>Xa 8 (row8 e0 e1 e2 e3 e4 e5 e6 e7)) a Vg c_gm8_ok (λs=>VO _) hs
def W9(n:Nat)(a:Nat->ZE):Bool:=match n with
 |0=>may0 a
 |1=>may1 a
 |2=>may2 a
 |3=>may3 a
 |4=>may4 a
 |5=>may5 a
 |6=>may6 a
 |7=>may7 a
 |8=>may8 a
 |_=>za
theorem ZpR(n:Nat)(hn8:n<=8)(a:Nat->ZE)(hs:∀j,j<n->0<=(a j).f0/\(a j).f0<4294967296):Zh P 69 (.cons (.rsl za 1 n λj=>Z8 za (a j)) .nil) (.bool za (W9 n a)):=by
 have key:Zh P 69 (.cons (.rsl ze 1 n λj=>Z8 ze (a j)) .nil) (.bool za (W9 n a)):=by
  match n,hn8,hs with
  |0,_,hs=>exact Zqz a hs
  |1,_,hs=>exact ZqA a hs
  |2,_,hs=>exact ZqB a hs
  |3,_,hs=>exact ZqC a hs
  |4,_,hs=>exact ZqD a hs
  |5,_,hs=>exact ZqE a hs
  |6,_,hs=>exact ZqF a hs
  |7,_,hs=>exact ZqG a hs
  |8,_,hs=>exact ZqH a hs
  |_+9,h,_=>omega
 exact Zh.args key λF w n' m xs hx=>((YM (.cons (.rsl ze 1 n λj=>Z8 ze (a j)) .nil) n' m).2 xs).1 (((YM (.cons (.rsl za 1 n λj=>Z8 za (a j)) .nil) n' m).2 xs).2 hx)
def Vf:Con:={ g:=69,al:=ze,ans:=λx=>match x with
 | .cons (.rsl _ 1 n get) .nil=>zi (.where_ (n<=8/\∀j,j<n->(get j).soft=Z8 za (X0 (get j))/\0<=(X0 (get j)).f0/\(X0 (get j)).f0<4294967296) (.bool za (W9 n λj=>X0 (get j))))
 |_=>zm }
theorem ZhP:Vf.Ok P:=by
 intro x
 dsimp only[Vf]
 split
 ·rename_i v h
  split at h<;>cases h
 ·rename_i p v h
  split at h
  ·rename_i n get
   injection h with h
   injection h with h1 h2
   subst h1;subst h2
   intro hp
   exact Zh.args (ZpR n hp.1 (λj=>X0 (get j)) (λj hj=>(hp.2 j hj).2)) λF w n' m xs hx=>Vb (λj hj=>by rw[(hp.2 j hj).1];rfl) hx
  ·cases h
 ·rename_i h
  split at h<;>cases h
 ·trivial
abbrev Zc1(d:Ze)(i:Int)(z:Unit):V:=(.cons (.ptr ze 0 0 0 0) (.cons (.bool ze za) (.cons (.rsl za 2 (Za.n5 (Ze.a d)) (λj=>Zu za ((Ze.a d).r5 j))) (.cons (.int za .i64 (((Za.n5 (Ze.a d)):Nat):Int)) (.cons (.int za .i64 i) .nil)))))
abbrev Zc2(d:Ze)(i:Int)(z:Unit):List Blk:=[.var (Yu d.a),mO d,mN d,mH d]
def ga1_R(d:Ze)(i:Int)(z:Unit):Tree Rd:=
 let q0:=(Wv d (d.a.r5 (zk i)).n1 (λj=>((d.a.r5 (zk i)).3 j)) (d.a.r5 (zk i)).n1)
 let q4:=(zl za 2 d.a.n5 λj=>Zu za (d.a.r5 j))
 let q1:=(zf (zl za 2 d.a.n1 λj=>Z9 za (d.a.r1 j)) (zf (zl za 1 d.a.n2 λj=>zf (zn za .u32 (d.a.r2 j).f0) zh) (zf (zl za 4 d.a.n3 λj=>Zv za (d.a.r3 j)) (zf (zl za 4 d.a.n4 λj=>Zt za (d.a.r4 j)) (zf q4 (zf (zl za 11 d.a.n6 λj=>Zy za (d.a.r6 j)) (zf (zl za 2 d.a.n7 λj=>Z0 za (d.a.r7 j)) (zf (zl za 5 d.a.n8 λj=>ZP za (d.a.r8 j)) (ci d.a.f9 (zf (zl za 2 d.a.n10 λj=>ZC za (d.a.r10 j)) (zf (zl za 3 d.a.n11 λj=>ZF za (d.a.r11 j)) (zf (zl za 2 d.a.n12 λj=>ZB za (d.a.r12 j)) (zf (zn za .u64 d.a.f13) (zf (zZ 1) (zf (zZ 2) (zf (zZ 3) zh))))))))))))))))
 let q3:=(zl za 2 d.a.n5 λjj=>Zu za (d.a.r5 jj))
 let q2:=(zw (Ex.ret,ze,zf (pt 0) (zf (zC ze za) (zf q3 (ci ((d.a.n5:Nat):Int) (ci i zh)))),[zN (Yu d.a),mO d,mN d,mH d]))
 zu ((0:Int)<=i/\i<((d.a.n5:Nat):Int)) (zu ((d.a.r5 (zk i)).n1<=(1000:Nat)/\(zQ za 0 0 0 0=zQ za 0 0 0 0/\zC za za=zC za za/\zQ za 4 0 0 0=zQ za 4 0 0 0/\((0:Nat)=(0:Nat)/\(5:Nat)<(6:Nat))/\(q4=zl za 2 d.a.n5 λj=>Zu za (d.a.r5 j))/\vi ((d.a.n5:Nat):Int)=vi ((d.a.n5:Nat):Int)/\vi i=vi i/\((zl za 1 (d.a.r5 (zk i)).n1 λj=>ci ((d.a.r5 (zk i)).3 j).f0 zh)=zl za 1 (d.a.r5 (zk i)).n1 λj=>ci ((d.a.r5 (zk i)).3 j).f0 zh)/\vi (((d.a.r5 (zk i)).n1:Nat):Int)=vi (((d.a.r5 (zk i)).n1:Nat):Int)/\vi (0:Int)=vi (0:Int)/\zh=zh)/\ci d.a.f0 q1=ci d.a.f0 q1/\(zA=zA/\YD .i64 (λx=>(d.2 (Zd x),vi (d.3 (Zd x)))) λk=>(d.2 (Zd k),vi (d.3 (Zd k))))/\(zA=zA/\YD .i64 (λx=>(d.4 (Zd x),vi (d.5 (Zd x)))) λk=>(d.4 (Zd k),vi (d.5 (Zd k))))/\(zA=zA/\YD .i64 (λx=>(d.6 (Zd x),vi (d.7 (Zd x)))) λk=>(d.6 (Zd k),vi (d.7 (Zd k))))/\Zu za (d.a.r5 (zk i))=Zu za (d.a.r5 (zk i))/\(0:Nat)=(0:Nat)/\True) (zB (bif Zp (Vu d (d.a.r5 (zk i)).n1 λj=>((d.a.r5 (zk i)).3 j)) (d.a.r5 (zk i)).n1 then ze else za) q2 (zu ((0:Nat)+zR q0<=zR q0) (zu (zR q0<=(8:Nat)/\∀(j:Nat),j<zR q0->zf (zn za .u32 (q0.2 ((0:Nat)+j)).f0) zh=Z8 za (q0.2 ((0:Nat)+j))/\(0:Int)<=(q0.2 ((0:Nat)+j)).f0/\(q0.2 ((0:Nat)+j)).f0<(4294967296:Int)) (zB (bif !W9 (zR q0) λj=>(q0.2 ((0:Nat)+j))then ze else za) q2 (zw (Ex.normal,ze,zf (pt 0) (zf (zC ze za) (zf q3 (ci ((d.a.n5:Nat):Int) (ci (zD .i64 (i+(1:Int))) zh)))),[zN (Yu d.a),mO d,mN d,mH d])))))))
theorem ga1_round(d:Ze):Yi P (Zl P [X8,Vf] [ga2_in d] ze) 38 2 4 4 59 [0,2,13,14,15] [(0,.own),(1,.own),(2,.own),(3,.own)] [] (Zc1 d) (Zc2 d) (λi=>(bif decide (i<((d.a.n5:Nat):Int))then za else ze)) (.exit 0) (ga1_R d):=λB i z=>by kernel_rfl
def Ug(d:Ze)(k:Nat):Bool:=(ga1_R d k ()).early
abbrev ga1_ets(d:Ze)(i:Int)(z:Unit):V:=(.cons (zQ ze 0 0 0 0) (.cons (zC ze za) (.cons (zl za 2 d.a.n5 λjj=>Zu za (d.a.r5 jj)) (.cons (zn za .i64 ((d.a.n5:Nat):Int)) (.cons .junk .nil)))))
def ZfP(d:Ze):Lp:=lpL 38 2 4 4 59 [0,2,13,14,15] [(0,.own),(1,.own),(2,.own),(3,.own)] [] (Zc1 d) (Zc2 d) (.exit 0) .ret () (λ_=>()) (Ug d) (Za.n5 (Ze.a d)) (ga1_ets d) (Zc2 d)
def ga1_need(d:Ze):Prop:=YC 4 [] (Zc1 d) (Zc2 d) () (Zc1 d (0:Nat) ()) (Zc2 d (0:Nat) ())
theorem ga1_fit(d:Ze):ga1_need d:=⟨rfl,⟨rfl,⟨rfl,λ_=>⟨rfl,rfl⟩⟩,⟨rfl,λ_=>⟨rfl,rfl⟩⟩,⟨rfl,λ_=>⟨rfl,rfl⟩⟩,trivial⟩⟩
theorem ga1_lp_ok(d:Ze)(hl:d.a.n5<=1000)(hM:∀j,j<d.a.n5->0<(d.a.r5 j).n1/\(d.a.r5 j).n1<=8)(hMA:∀j,(d.a.r5 j).n1<=1000)(hO:∀j:Int,d.oh j=ze->0<=d.og j/\d.og j<d.a.n6)(h64:d.a.n6=d.a.n4)(hl3:d.a.n3<=1000)(hl4:d.a.n4<=1000)(hH:0<d.a.n4->∀j:Int,0<=(bif d.hh j then d.hg j else 0)/\(bif d.hh j then d.hg j else 0)<d.a.n3)(hP:0<d.a.n4->∀j:Int,0<=(d.a.r3 (bif d.hh j then d.hg j else 0).toNat).f3/\(d.a.r3 (bif d.hh j then d.hg j else 0).toNat).f3<d.a.n2):(ZfP d).Ok P:=by
 refine YR (Zw hm hn (l:=[X8,Vf]) ⟨Ve,ZhP,trivial⟩ (ls:=[ga2_in d]) ⟨ga2_in_ok d hO h64 hl3 hl4 hH hP,trivial⟩ ze) rfl (by kernel_rfl) (ga1_round d) exN Yv (λ_=>rfl) (step:=λ_ z=>z) (rd:=(λ_ t y=>())) (λi z=>rfl) (λi=>rfl) rfl (λi hlt hg=>?_) (λi z hi=>?_)
 ·have hltI:(i:Int)<(((Za.n5 (Ze.a d)):Nat):Int):=by omega
  refine⟨?_,⟨?_,⟨λhb0=>trivial,λhb0=>⟨?_,⟨?_,⟨λhb1=>trivial,λhb1=>trivial⟩⟩⟩⟩⟩⟩
  all_goals(have hf0:=hM ((i:Int).toNat) (by omega))
  all_goals(repeat'(first|exact rfl|exact λ_=>⟨rfl,rfl⟩|apply zy|intro _))
  all_goals(try simp only[decide_eq_true_eq,decide_eq_false_iff_not,yg,yw]at*)
  all_goals(try simp(disch:=omega) only[IntWalk.i64_in])
  all_goals(first|omega|exact hMA _|exact(Nat.le_trans (ga2_cnt _ _ _ _) (hM _ (by omega)).2)|exact(ZfQ _ _ _ _ _ (by assumption)).1|exact(ZfQ _ _ _ _ _ (by assumption)).2|exact(by rw[zX];exact(ZfQ _ _ _ _ _ (by assumption)).1)|exact(by rw[zX];exact(ZfQ _ _ _ _ _ (by assumption)).2))
 ·have hw:=(IntWalk.i64_in ((i:Int)+1) ⟨by omega,by omega⟩)
  refine⟨?_,⟨?_,?_⟩⟩
  all_goals(first|exact⟨rfl,Yq (ts:=Zc1 d) (a:=()) hw rfl,Z5 _⟩|exact⟨rfl,rfl,(by repeat'(first|exact Le.refl _|exact Le.junk _ rfl|apply Le.cons)),Z5 _⟩)
def vGanged_T(d:Ze):Tree (V×List Blk):=
 let q3:=(zl za 2 d.a.n5 λj=>Zu za (d.a.r5 j))
 let q0:=(zf (zl za 2 d.a.n1 λj=>Z9 za (d.a.r1 j)) (zf (zl za 1 d.a.n2 λj=>zf (zn za .u32 (d.a.r2 j).f0) zh) (zf (zl za 4 d.a.n3 λj=>Zv za (d.a.r3 j)) (zf (zl za 4 d.a.n4 λj=>Zt za (d.a.r4 j)) (zf q3 (zf (zl za 11 d.a.n6 λj=>Zy za (d.a.r6 j)) (zf (zl za 2 d.a.n7 λj=>Z0 za (d.a.r7 j)) (zf (zl za 5 d.a.n8 λj=>ZP za (d.a.r8 j)) (ci d.a.f9 (zf (zl za 2 d.a.n10 λj=>ZC za (d.a.r10 j)) (zf (zl za 3 d.a.n11 λj=>ZF za (d.a.r11 j)) (zf (zl za 2 d.a.n12 λj=>ZB za (d.a.r12 j)) (zf (zn za .u64 d.a.f13) (zf (zZ 1) (zf (zZ 2) (zf (zZ 3) zh))))))))))))))))
 let q1:=[zN (Yu d.a),Blk.Zk (MK.int .i64) za (λk=>(d.2 (Zd k),vi (d.3 (Zd k)))) zm,Blk.Zk (MK.int .i64) za (λk=>(d.4 (Zd k),vi (d.5 (Zd k)))) zm,Blk.Zk (MK.int .i64) za (λk=>(d.6 (Zd k),vi (d.7 (Zd k)))) zm]
 let q2:=(zf (zC za za) (zf q3 (ci ((d.a.n5:Nat):Int) (ci (0:Int) zh))))
 zu (zf (zQ za 0 0 0 0) q2=zf (zQ za 0 0 0 0) q2/\ci d.a.f0 q0=ci d.a.f0 q0/\(zA=zA/\YD .i64 (λx=>(d.2 (Zd x),vi (d.3 (Zd x)))) λk=>(d.2 (Zd k),vi (d.3 (Zd k))))/\(zA=zA/\YD .i64 (λx=>(d.4 (Zd x),vi (d.5 (Zd x)))) λk=>(d.4 (Zd k),vi (d.5 (Zd k))))/\(zA=zA/\YD .i64 (λx=>(d.6 (Zd x),vi (d.7 (Zd x)))) λk=>(d.6 (Zd k),vi (d.7 (Zd k))))/\True) (zB (bif Zp (Ug d) d.a.n5 then ze else za) (zw (zC ze za,q1)) (zw (zC ze ze,q1)))
theorem ZrK(d:Ze):evH (Zl P [X8,Vf] [ZfP d] ze) 400 38 (.cons (.ptr ze 0 0 0 0) .nil) (Yt d)=vGanged_T d:=by kernel_rfl
def Zah(d:Ze):Bool:=
  (bif bif Zp (Ug d) d.a.n5 then ze else za then(za)else(ze))
theorem ZrI(d:Ze)(h0:d.a.n3<=1000)(h1:d.a.n4<=1000)(h2:d.a.n5<=1000)(h3:∀j,j<d.a.n5->0<(d.a.r5 j).n1/\(d.a.r5 j).n1<=8)(h4:∀j,(d.a.r5 j).n1<=1000)(h5:∀j:Int,d.oh j=ze->0<=d.og j/\d.og j<d.a.n6)(h6:d.a.n6=d.a.n4)(h7:0<d.a.n4->∀j:Int,0<=(bif d.hh j then d.hg j else 0)/\(bif d.hh j then d.hg j else 0)<d.a.n3)(h8:0<d.a.n4->∀j:Int,0<=(d.a.r3 (bif d.hh j then d.hg j else 0).toNat).f3/\(d.a.r3 (bif d.hh j then d.hg j else 0).toNat).f3<d.a.n2):YG P 38 (.cons (.ptr ze 0 0 0 0) .nil) (Yt d) (.leaf (.bool za (Zah d),Yt d)):=by
 refine GH (E:=(Zl P [X8,Vf] [ZfP d] ze)) (Zw hm hn (l:=[X8,Vf]) ⟨Ve,ZhP,trivial⟩ (ls:=[ZfP d]) ⟨ga1_lp_ok d h2 h3 h4 h5 h6 h0 h1 h7 h8,trivial⟩ ze) (ZrK d) ((cC rfl rfl)) ⟨⟨rfl,rfl⟩,⟨rfl,rfl⟩⟩ ?_
 refine⟨?_,⟨λhb0=>trivial,λhb0=>trivial⟩⟩
 all_goals((repeat'(first|exact ga1_fit d|exact rfl|exact λ_=>⟨rfl,rfl⟩|apply zy|intro _));all_goals(try simp only[decide_eq_true_eq,decide_eq_false_iff_not]at*);all_goals(first|omega|exact ga1_fit d))
def ZbM:HK:=λargs bl=>match args,bl with
 |(.cons (.ptr ze 0 0 0 0) .nil),[.var c,.Zk (.int .i64) _ fo _,.Zk (.int .i64) _ fn _,.Zk (.int .i64) _ fh _]=>zi (c.QV λc=>.need (UD c fo fn fh/\(λ(d:Ze)=>d.a.n3<=1000/\d.a.n4<=1000/\d.a.n5<=1000/\(∀j,j<d.a.n5->0<(d.a.r5 j).n1/\(d.a.r5 j).n1<=8)/\(∀j,(d.a.r5 j).n1<=1000)/\(∀j:Int,d.oh j=ze->0<=d.og j/\d.og j<d.a.n6)/\d.a.n6=d.a.n4/\(0<d.a.n4->∀j:Int,0<=(bif d.hh j then d.hg j else 0)/\(bif d.hh j then d.hg j else 0)<d.a.n3)/\(0<d.a.n4->∀j:Int,0<=(d.a.r3 (bif d.hh j then d.hg j else 0).toNat).f3/\(d.a.r3 (bif d.hh j then d.hg j else 0).toNat).f3<d.a.n2)) (Xr c fo fn fh)) (.leaf (.bool za (Zah (Xr c fo fn fh)),Yt (Xr c fo fn fh))))
 |_,_=>zm
theorem ZrJ:Xo P 38 ZbM:=by
 intro args bl T hT
 unfold ZbM at hT
 split at hT
 ·rename_i c q1 fo q2 q3 fn q4 q5 fh q6
  injection hT with hT
  subst hT
  intro base mm F w xs Q KK h1 h2 hq hk
  simp only[V.Jp]at hq
  obtain⟨hp,hq⟩:=hq
  exact YG.le (bl:=[.var c,.Zk (.int .i64) q1 fo q2,.Zk (.int .i64) q3 fn q4,.Zk (.int .i64) q5 fh q6]) (ZrI (Xr c fo fn fh) hp.2.1 hp.2.2.1 hp.2.2.2.1 hp.2.2.2.2.1 hp.2.2.2.2.2.1 hp.2.2.2.2.2.2.1 hp.2.2.2.2.2.2.2.1 hp.2.2.2.2.2.2.2.2.1 hp.2.2.2.2.2.2.2.2.2) rfl (λb=>Zak hp.1 b) base mm F w xs Q KK h1 h2 hq hk
 ·cases hT
abbrev ZdZ(d:Ze)(i:Int)(z:Unit):V:=(.cons (.ptr ze 0 0 0 0) (.cons (.bool ze za) (.cons (.rsl za 5 (Za.n8 (Ze.a d)) (λj=>ZP za ((Ze.a d).r8 j))) (.cons (.int za .i64 (((Za.n8 (Ze.a d)):Nat):Int)) (.cons (.int za .i64 i) .nil)))))
abbrev Zd0(d:Ze)(i:Int)(z:Unit):List Blk:=[.var (Yu d.a),mO d,mN d,mH d]
def wt1_R(d:Ze)(i:Int)(z:Unit):Tree Rd:=
 let q0:=(zl za 5 d.a.n8 λjj=>ZP za (d.a.r8 jj))
 zu (((0:Int)<=i/\i<((d.a.n8:Nat):Int))/\((bif !d.2 (d.a.r8 (zk i)).f1 then ze else za)=za->((0:Int)<=bif d.2 (d.a.r8 (zk i)).f1 then d.3 (d.a.r8 (zk i)).f1 else(0:Int))/\(bif d.2 (d.a.r8 (zk i)).f1 then d.3 (d.a.r8 (zk i)).f1 else(0:Int))<((d.a.n6:Nat):Int))) (zB (bif bif !d.2 (d.a.r8 (zk i)).f1 then ze else za then ze else za) (zw (Ex.ret,ze,zf (pt 0) (zf (zC ze za) (zf q0 (ci ((d.a.n8:Nat):Int) (ci i zh)))),[zN (Yu d.a),mO d,mN d,mH d])) (zw (Ex.normal,ze,zf (pt 0) (zf (zC ze za) (zf q0 (ci ((d.a.n8:Nat):Int) (ci (zD .i64 (i+(1:Int))) zh)))),[zN (Yu d.a),mO d,mN d,mH d])))
theorem wt1_round(d:Ze):Yi P (Zl P [] [] ze) 39 4 4 4 103 [0,2,32,33,34] [(0,.own),(1,.own),(2,.own),(3,.own)] [] (ZdZ d) (Zd0 d) (λi=>(bif decide (i<((d.a.n8:Nat):Int))then za else ze)) (.exit 0) (wt1_R d):=λB i z=>by kernel_rfl
def Zjs(d:Ze)(k:Nat):Bool:=(wt1_R d k ()).early
abbrev wt1_ets(d:Ze)(i:Int)(z:Unit):V:=(.cons (zQ ze 0 0 0 0) (.cons (zC ze za) (.cons (zl za 5 d.a.n8 λjj=>ZP za (d.a.r8 jj)) (.cons (zn za .i64 ((d.a.n8:Nat):Int)) (.cons .junk .nil)))))
def Zhg(d:Ze):Lp:=lpL 39 4 4 4 103 [0,2,32,33,34] [(0,.own),(1,.own),(2,.own),(3,.own)] [] (ZdZ d) (Zd0 d) (.exit 0) .ret () (λ_=>()) (Zjs d) (Za.n8 (Ze.a d)) (wt1_ets d) (Zd0 d)
def wt1_need(d:Ze):Prop:=YC 4 [] (ZdZ d) (Zd0 d) () (ZdZ d (0:Nat) ()) (Zd0 d (0:Nat) ())
theorem wt1_fit(d:Ze):wt1_need d:=⟨rfl,⟨rfl,⟨rfl,λ_=>⟨rfl,rfl⟩⟩,⟨rfl,λ_=>⟨rfl,rfl⟩⟩,⟨rfl,λ_=>⟨rfl,rfl⟩⟩,trivial⟩⟩
theorem wt1_lp_ok(d:Ze)(hl:d.a.n8<=1000)(hO:∀j:Int,d.oh j=ze->0<=d.og j/\d.og j<d.a.n6):(Zhg d).Ok P:=by
 refine YR (Zw hm hn (l:=[]) trivial (ls:=[]) trivial ze) rfl (by kernel_rfl) (wt1_round d) exN Yv (λ_=>rfl) (step:=λ_ z=>z) (rd:=(λ_ t y=>())) (λi z=>rfl) (λi=>rfl) rfl (λi hlt hg=>?_) (λi z hi=>?_)
 ·have hltI:(i:Int)<(((Za.n8 (Ze.a d)):Nat):Int):=by omega
  refine⟨?_,⟨λhb0=>trivial,λhb0=>trivial⟩⟩
  all_goals(repeat'(first|exact rfl|exact λ_=>⟨rfl,rfl⟩|apply zy|intro _))
  all_goals(try simp only[decide_eq_true_eq,decide_eq_false_iff_not,yg,yw]at*)
  all_goals(try simp(disch:=omega) only[IntWalk.i64_in])
  all_goals(first|omega|exact(Q5 ‹_› (hO _)).1|exact(Q5 ‹_› (hO _)).2)
 ·have hw:=(IntWalk.i64_in ((i:Int)+1) ⟨by omega,by omega⟩)
  refine⟨?_,?_⟩
  all_goals(first|exact⟨rfl,Yq (ts:=ZdZ d) (a:=()) hw rfl,Z5 _⟩|exact⟨rfl,rfl,(by repeat'(first|exact Le.refl _|exact Le.junk _ rfl|apply Le.cons)),Z5 _⟩)
abbrev Zd1(d:Ze)(i:Int)(z:Unit):V:=(.cons (.ptr ze 0 0 0 0) (.cons (.bool ze za) (.cons (.rsl za 3 (Za.n11 (Ze.a d)) (λj=>ZF za ((Ze.a d).r11 j))) (.cons (.int za .i64 (((Za.n11 (Ze.a d)):Nat):Int)) (.cons (.int za .i64 i) .nil)))))
abbrev Zd2(d:Ze)(i:Int)(z:Unit):List Blk:=[.var (Yu d.a),mO d,mN d,mH d]
def wt2_R(d:Ze)(i:Int)(z:Unit):Tree Rd:=
 let q0:=(zl za 3 d.a.n11 λjj=>ZF za (d.a.r11 jj))
 zu (((0:Int)<=i/\i<((d.a.n11:Nat):Int))/\((bif !d.2 (d.a.r11 (zk i)).f0 then ze else za)=za->((0:Int)<=bif d.2 (d.a.r11 (zk i)).f0 then d.3 (d.a.r11 (zk i)).f0 else(0:Int))/\(bif d.2 (d.a.r11 (zk i)).f0 then d.3 (d.a.r11 (zk i)).f0 else(0:Int))<((d.a.n6:Nat):Int))) (zB (bif bif !d.2 (d.a.r11 (zk i)).f0 then ze else za then ze else za) (zw (Ex.ret,ze,zf (pt 0) (zf (zC ze za) (zf q0 (ci ((d.a.n11:Nat):Int) (ci i zh)))),[zN (Yu d.a),mO d,mN d,mH d])) (zw (Ex.normal,ze,zf (pt 0) (zf (zC ze za) (zf q0 (ci ((d.a.n11:Nat):Int) (ci (zD .i64 (i+(1:Int))) zh)))),[zN (Yu d.a),mO d,mN d,mH d])))
theorem wt2_round(d:Ze):Yi P (Zl P [] [] ze) 39 10 4 4 103 [0,2,49,50,51] [(0,.own),(1,.own),(2,.own),(3,.own)] [] (Zd1 d) (Zd2 d) (λi=>(bif decide (i<((d.a.n11:Nat):Int))then za else ze)) (.exit 2) (wt2_R d):=λB i z=>by kernel_rfl
def Zjt(d:Ze)(k:Nat):Bool:=(wt2_R d k ()).early
abbrev wt2_ets(d:Ze)(i:Int)(z:Unit):V:=(.cons (zQ ze 0 0 0 0) (.cons (zC ze za) (.cons (zl za 3 d.a.n11 λjj=>ZF za (d.a.r11 jj)) (.cons (zn za .i64 ((d.a.n11:Nat):Int)) (.cons .junk .nil)))))
def Zhh(d:Ze):Lp:=lpL 39 10 4 4 103 [0,2,49,50,51] [(0,.own),(1,.own),(2,.own),(3,.own)] [] (Zd1 d) (Zd2 d) (.exit 2) .ret () (λ_=>()) (Zjt d) (Za.n11 (Ze.a d)) (wt2_ets d) (Zd2 d)
def wt2_need(d:Ze):Prop:=YC 4 [] (Zd1 d) (Zd2 d) () (Zd1 d (0:Nat) ()) (Zd2 d (0:Nat) ())
theorem wt2_fit(d:Ze):wt2_need d:=⟨rfl,⟨rfl,⟨rfl,λ_=>⟨rfl,rfl⟩⟩,⟨rfl,λ_=>⟨rfl,rfl⟩⟩,⟨rfl,λ_=>⟨rfl,rfl⟩⟩,trivial⟩⟩
theorem wt2_lp_ok(d:Ze)(hl:d.a.n11<=1000)(hO:∀j:Int,d.oh j=ze->0<=d.og j/\d.og j<d.a.n6):(Zhh d).Ok P:=by
 refine YR (Zw hm hn (l:=[]) trivial (ls:=[]) trivial ze) rfl (by kernel_rfl) (wt2_round d) exN Yv (λ_=>rfl) (step:=λ_ z=>z) (rd:=(λ_ t y=>())) (λi z=>rfl) (λi=>rfl) rfl (λi hlt hg=>?_) (λi z hi=>?_)
 ·have hltI:(i:Int)<(((Za.n11 (Ze.a d)):Nat):Int):=by omega
  refine⟨?_,⟨λhb0=>trivial,λhb0=>trivial⟩⟩
  all_goals(repeat'(first|exact rfl|exact λ_=>⟨rfl,rfl⟩|apply zy|intro _))
  all_goals(try simp only[decide_eq_true_eq,decide_eq_false_iff_not,yg,yw]at*)
  all_goals(try simp(disch:=omega) only[IntWalk.i64_in])
  all_goals(first|omega|exact(Q5 ‹_› (hO _)).1|exact(Q5 ‹_› (hO _)).2)
 ·have hw:=(IntWalk.i64_in ((i:Int)+1) ⟨by omega,by omega⟩)
  refine⟨?_,?_⟩
  all_goals(first|exact⟨rfl,Yq (ts:=Zd1 d) (a:=()) hw rfl,Z5 _⟩|exact⟨rfl,rfl,(by repeat'(first|exact Le.refl _|exact Le.junk _ rfl|apply Le.cons)),Z5 _⟩)
abbrev ZdT(d:Ze)(b:Int)(x:Y3)(i:Int)(z:Unit):V:=(.cons (.rsl za 5 (Za.n8 (Ze.a d)) (λj=>ZP za ((Ze.a d).r8 j))) (.cons (.fn (Fn.func (117:Nat)) .nil (.cons (.ptr ze (4:Nat) (0:Nat) (0:Nat) (0:Nat)) (.cons (.ptr ze (5:Nat) (0:Nat) (0:Nat) (0:Nat)) .nil))) (.cons (.int ze .i64 0) (.cons (.int za .i64 (((Za.n8 (Ze.a d)):Nat):Int)) (.cons (.int za .i64 i) .nil)))))
abbrev ZdU(d:Ze)(b:Int)(x:Y3)(i:Int)(z:Unit):List Blk:=[.var (Yu d.a),mO d,mN d,mH d,.var (.cons (.int za .i64 (b)) .nil),.var (.cons (.int za .i64 (Y3.f0 x)) (.cons (.int za .i64 (Y3.f1 x)) (.cons (.int za .u32 (Y3.f2 x)) (.cons (.int za .i64 (Y3.f3 x)) .nil))))]
def th1_R(d:Ze)(b:Int)(x:Y3)(i:Int)(z:Unit):Tree Rd:=
 let q5:=(zl za 5 d.a.n8 λjj=>ZP za (d.a.r8 jj))
 let q3:=(V.fn (Fn.func (117:Nat)) zh (zf (pt 4) (zf (pt 5) zh)))
 let q2:=[zN (Yu d.a),mO d,mN d,mH d,zN (ci b zh),zN (Xt za x)]
 let q0:=(zw (Ex.normal,ze,zf q5 (zf q3 (zf (zn ze .i64 (0:Int)) (ci ((d.a.n8:Nat):Int) (ci (zD .i64 (i+(1:Int))) zh)))),q2))
 let q4:=((d.a.r8 (zk i)).f0-(1:Int))
 let q1:=(zD .u32 ((yF (yc (zY .u32) (Int.fdiv x.f2 ((2:Int)^min (zk (zD .i64 q4)) (zY .u32)))&&& yc (zY .u32) (1:Int)):Nat):Int)>(0:Int))
 zu ((0:Int)<=i/\i<((d.a.n8:Nat):Int)) (zB (bif bif (d.a.r8 (zk i)).f1 != b then ze else !(d.a.r8 (zk i)).b3 then ze else za) q0 (zu (((x.f0==(2:Int))=ze->(!(d.a.r8 (zk i)).b4)=za->(x.f0==(3:Int))=ze->(0:Int)<=zD .i64 q4)/\((x.f0==(2:Int))=za->(x.f0==(3:Int))=ze->(0:Int)<=zD .i64 q4)) (zB (bif bif x.f0==(2:Int)then bif !(d.a.r8 (zk i)).b4 then ze else bif x.f0==(3:Int)then decide q1 else za else bif x.f0==(3:Int)then decide q1 else za then ze else za) (zw (Ex.ret,ze,zf q5 (zf q3 (ci i (ci ((d.a.n8:Nat):Int) (ci i zh)))),q2)) q0)))
theorem th1_round(d:Ze)(b:Int)(x:Y3):Yi P (Zl P [] [] ze) 168 2 6 6 19 [0,1,4,7,8] [(0,.own),(1,.own),(2,.own),(3,.own),(4,.own),(5,.own)] [] (ZdT d b x) (ZdU d b x) (λi=>(bif decide (i<((d.a.n8:Nat):Int))then za else ze)) (.exit 0) (th1_R d b x):=λB i z=>by kernel_rfl
def Zjl(d:Ze)(b:Int)(x:Y3)(k:Nat):Bool:=(th1_R d b x k ()).early
abbrev th1_ets(d:Ze)(b:Int)(x:Y3)(i:Int)(z:Unit):V:=(.cons (zl za 5 d.a.n8 λjj=>ZP za (d.a.r8 jj)) (.cons (V.fn (Fn.func (117:Nat)) zh (zf (zQ ze 4 0 0 0) (zf (zQ ze 5 0 0 0) zh))) (.cons (zn za .i64 i) (.cons (zn za .i64 ((d.a.n8:Nat):Int)) (.cons .junk .nil)))))
def Zg4(d:Ze)(b:Int)(x:Y3):Lp:=lpL 168 2 6 6 19 [0,1,4,7,8] [(0,.own),(1,.own),(2,.own),(3,.own),(4,.own),(5,.own)] [] (ZdT d b x) (ZdU d b x) (.exit 0) .ret () (λ_=>()) (Zjl d b x) (Za.n8 (Ze.a d)) (th1_ets d b x) (ZdU d b x)
def th1_need(d:Ze)(b:Int)(x:Y3):Prop:=YC 6 [] (ZdT d b x) (ZdU d b x) () (ZdT d b x (0:Nat) ()) (ZdU d b x (0:Nat) ())
theorem th1_fit(d:Ze)(b:Int)(x:Y3):th1_need d b x:=⟨rfl,⟨rfl,⟨rfl,λ_=>⟨rfl,rfl⟩⟩,⟨rfl,λ_=>⟨rfl,rfl⟩⟩,⟨rfl,λ_=>⟨rfl,rfl⟩⟩,rfl,rfl,trivial⟩⟩
theorem th1_lp_ok(d:Ze)(b:Int)(x:Y3)(hl:d.a.n8<=1000)(hN:∀j:Nat,j<d.a.n8->1<=(d.a.r8 j).f0/\(d.a.r8 j).f0<=32):(Zg4 d b x).Ok P:=by
 refine YR (Zw hm hn (l:=[]) trivial (ls:=[]) trivial ze) rfl (by kernel_rfl) (th1_round d b x) exN Yv (λ_=>rfl) (step:=λ_ z=>z) (rd:=(λ_ t y=>())) (λi z=>rfl) (λi=>rfl) rfl (λi hlt hg=>?_) (λi z hi=>?_)
 ·have hltI:(i:Int)<(((Za.n8 (Ze.a d)):Nat):Int):=by omega
  refine⟨?_,⟨λhb0=>trivial,λhb0=>⟨?_,⟨λhb1=>trivial,λhb1=>trivial⟩⟩⟩⟩
  all_goals(have hf0:=hN ((i:Int).toNat) (by omega))
  all_goals(repeat'(first|exact rfl|exact λ_=>⟨rfl,rfl⟩|apply zy|intro _))
  all_goals(try simp only[decide_eq_true_eq,decide_eq_false_iff_not,yg,yw]at*)
  all_goals(try simp(disch:=omega) only[IntWalk.i64_in])
  all_goals(first|omega)
 ·have hw:=(IntWalk.i64_in ((i:Int)+1) ⟨by omega,by omega⟩)
  refine⟨?_,⟨?_,?_⟩⟩
  all_goals(first|exact⟨rfl,Yq (ts:=ZdT d b x) (a:=()) hw rfl,Z5 _⟩|exact⟨rfl,rfl,(by repeat'(first|exact Le.refl _|exact Le.junk _ rfl|apply Le.cons)),Z5 _⟩)
def vThere_T(d:Ze)(b:Int)(x:Y3):Tree (V×List Blk):=
 let q3:=(zl za 5 d.a.n8 λj=>ZP za (d.a.r8 j))
 let q0:=(zf (zl za 2 d.a.n1 λj=>Z9 za (d.a.r1 j)) (zf (zl za 1 d.a.n2 λj=>zf (zn za .u32 (d.a.r2 j).f0) zh) (zf (zl za 4 d.a.n3 λj=>Zv za (d.a.r3 j)) (zf (zl za 4 d.a.n4 λj=>Zt za (d.a.r4 j)) (zf (zl za 2 d.a.n5 λj=>Zu za (d.a.r5 j)) (zf (zl za 11 d.a.n6 λj=>Zy za (d.a.r6 j)) (zf (zl za 2 d.a.n7 λj=>Z0 za (d.a.r7 j)) (zf q3 (ci d.a.f9 (zf (zl za 2 d.a.n10 λj=>ZC za (d.a.r10 j)) (zf (zl za 3 d.a.n11 λj=>ZF za (d.a.r11 j)) (zf (zl za 2 d.a.n12 λj=>ZB za (d.a.r12 j)) (zf (zn za .u64 d.a.f13) (zf (zZ 1) (zf (zZ 2) (zf (zZ 3) zh))))))))))))))))
 let q1:=[zN (Yu d.a),Blk.Zk (MK.int .i64) za (λk=>(d.2 (Zd k),vi (d.3 (Zd k)))) zm,Blk.Zk (MK.int .i64) za (λk=>(d.4 (Zd k),vi (d.5 (Zd k)))) zm,Blk.Zk (MK.int .i64) za (λk=>(d.6 (Zd k),vi (d.7 (Zd k)))) zm]
 let q2:=(zf (V.fn (Fn.func (117:Nat)) zh (zf (zQ za 4 0 0 0) (zf (zQ za 5 0 0 0) zh))) (ci (0:Int) (ci ((d.a.n8:Nat):Int) (ci (0:Int) zh))))
 zu (zf q3 q2=zf q3 q2/\ci d.a.f0 q0=ci d.a.f0 q0/\(zA=zA/\YD .i64 (λx=>(d.2 (Zd x),vi (d.3 (Zd x)))) λk=>(d.2 (Zd k),vi (d.3 (Zd k))))/\(zA=zA/\YD .i64 (λx=>(d.4 (Zd x),vi (d.5 (Zd x)))) λk=>(d.4 (Zd k),vi (d.5 (Zd k))))/\(zA=zA/\YD .i64 (λx=>(d.6 (Zd x),vi (d.7 (Zd x)))) λk=>(d.6 (Zd k),vi (d.7 (Zd k))))/\ci b zh=ci b zh/\Xt za x=Xt za x/\True) (zB (bif Zp (Zjl d b x) d.a.n8 then ze else za) (zw (zC za ze,q1)) (zw (zC ze za,q1)))
theorem ZrW(d:Ze)(b:Int)(x:Y3):evH (Zl P [] [Zg4 d b x] ze) 400 72 (.cons (.ptr ze 0 0 0 0) (.cons (.int za .i64 b) (.cons (.agg (Xt za x)) .nil))) (Yt d)=vThere_T d b x:=by kernel_rfl
def Zhb(d:Ze)(b:Int)(x:Y3):Bool:=
  (bif bif Zp (Zjl d b x) d.a.n8 then ze else za then(ze)else(za))
theorem vThere_at(d:Ze)(b:Int)(x:Y3)(h0:d.a.n8<=1000)(h1:∀j:Nat,j<d.a.n8->1<=(d.a.r8 j).f0/\(d.a.r8 j).f0<=32):YG P 72 (.cons (.ptr ze 0 0 0 0) (.cons (.int za .i64 b) (.cons (.agg (Xt za x)) .nil))) (Yt d) (.leaf (.bool za (Zhb d b x),Yt d)):=by
 refine GH (E:=(Zl P [] [Zg4 d b x] ze)) (Zw hm hn (l:=[]) trivial (ls:=[Zg4 d b x]) ⟨th1_lp_ok d b x h0 h1,trivial⟩ ze) (ZrW d b x) ((cC rfl rfl)) ⟨⟨rfl,rfl⟩,⟨rfl,rfl⟩⟩ ?_
 refine⟨?_,⟨λhb0=>trivial,λhb0=>trivial⟩⟩
 all_goals((repeat'(first|exact th1_fit d b x|exact rfl|exact λ_=>⟨rfl,rfl⟩|apply zy|intro _));all_goals(try simp only[decide_eq_true_eq,decide_eq_false_iff_not]at*);all_goals(first|omega|exact th1_fit d b x))
def Zaj:HK:=λargs bl=>match args,bl with
 |(.cons (.ptr ze 0 0 0 0) (.cons (.int _ .i64 b) (.cons (.agg cx) .nil))),[.var c,.Zk (.int .i64) _ fo _,.Zk (.int .i64) _ fn _,.Zk (.int .i64) _ fh _]=>zi (c.QV λc=>cx.QV λcx=>.need (UD c fo fn fh/\(zJ cx).soft=.agg (Xt za (Je cx))/\(λ(d:Ze)(b:Int)(x:Y3)=>d.a.n8<=1000/\(∀j:Nat,j<d.a.n8->1<=(d.a.r8 j).f0/\(d.a.r8 j).f0<=32)) (Xr c fo fn fh) (b) (Je cx)) (.leaf (.bool za (Zhb (Xr c fo fn fh) (b) (Je cx)),Yt (Xr c fo fn fh))))
 |_,_=>zm
theorem ZmF:Xo P 72 Zaj:=by
 intro args bl T hT
 unfold Zaj at hT
 split at hT
 ·rename_i q0 b cx c q1 fo q2 q3 fn q4 q5 fh q6
  injection hT with hT
  subst hT
  intro base mm F w xs Q KK h1 h2 hq hk
  simp only[V.Jp]at hq
  obtain⟨hp,hq⟩:=hq
  exact YG.le (bl:=[.var c,.Zk (.int .i64) q1 fo q2,.Zk (.int .i64) q3 fn q4,.Zk (.int .i64) q5 fh q6]) (vThere_at (Xr c fo fn fh) (b) (Je cx) hp.2.2.1 hp.2.2.2) rfl (λb=>Zak hp.1 b) base mm F w xs Q KK h1 (RLsoft (a:=(.cons (.ptr ze 0 0 0 0) (.cons (.int q0 .i64 b) (.cons (.agg cx) .nil)))) (b:=(.cons (.ptr ze 0 0 0 0) (.cons (.int za .i64 b) (.cons (.agg (Xt za (Je cx))) .nil)))) (show V.soft (.cons (.ptr ze 0 0 0 0) (.cons (.int q0 .i64 b) (.cons (.agg cx) .nil)))=V.soft (.cons (.ptr ze 0 0 0 0) (.cons (.int za .i64 b) (.cons (.agg (Xt za (Je cx))) .nil)))from(congrArg (λz=>(zf (zQ za 0 0 0 0) (zf (zn za .i64 b) (zf (z) zh)))) hp.2.1)) h2) hq hk
 ·cases hT
def vSleeps_T(a:Xi)(b:Int):Tree V:=
 let q3:=(zl za 2 a.n1 λj=>ZC za (a.3 j))
 let q0:=(ci a.f0 (zf q3 (zf (zl za 3 a.n2 λj=>ZF za (a.5 j)) zh)))
 let q1:=(ci a.f0 (zf q3 zh))
 let q2:=(zD .i64 (zD .i64 ((16:Int)+b)-(1:Int)))
 zu (zf (zJ q0) zh=zf (zJ q0) zh/\a.n1<=(1000:Nat)/\a.n2<=(1000:Nat)) (zB (bif bif Zag (Qa q0) != (0:Int)then ze else !bif decide (b>=(1:Int))then decide (b<=(16:Int))else za then ze else za) (zw (V.tup (zf (zn ze .i64 (0:Int)) (zf (zC ze za) zh)))) (zu (zf (zJ q1) (ci q2 zh)=zf (zJ q1) (ci q2 zh)/\a.n1<=(1000:Nat)) (zw (V.tup (ci (Zhd (ZY q1) q2) (zf (zC za (Yj (ZY q1) q2)) zh))))))
theorem ZrV(a:Xi)(b:Int):ZT (Zl P [ZaH,Zcu] [] ze) 400 71 (.cons (.agg (ZaN za a)) (.cons (.int za .i64 b) .nil))=vSleeps_T a b:=by kernel_rfl
def Zg9(a:Xi)(b:Int):Int:=
  (bif bif bif Zag (Qa (zf (zn za .i64 a.f0) (zf (zl za 2 a.n1 λj=>ZC za (a.3 j)) (zf (zl za 3 a.n2 λj=>
  ZF za (a.5 j)) zh)))) != (0:Int)then ze else !bif decide (b>=(1:Int))then decide (b<=(16:Int))else za then ze else za then(0:Int)else
  Zhd (ZY (zf (zn za .i64 a.f0) (zf (zl za 2 a.n1 λj=>ZC za (a.3 j)) zh))) (zD .i64 (zD .i64 ((16:Int)+
  b)-(1:Int))))
def Zha(a:Xi)(b:Int):Bool:=
  (bif bif bif Zag (Qa (zf (zn za .i64 a.f0) (zf (zl za 2 a.n1 λj=>ZC za (a.3 j)) (zf (zl za 3 a.n2 λj=>
  ZF za (a.5 j)) zh)))) != (0:Int)then ze else !bif decide (b>=(1:Int))then decide (b<=(16:Int))else za then ze else za then za else
  Yj (ZY (zf (zn za .i64 a.f0) (zf (zl za 2 a.n1 λj=>ZC za (a.3 j)) zh))) (zD .i64 (zD .i64 ((16:Int)+
  b)-(1:Int))))
theorem ZrU(a:Xi)(b:Int)(h0:a.n1<=1000)(h1:a.n2<=1000):Zh P 71 (.cons (.agg (ZaN za a)) (.cons (.int za .i64 b) .nil)) (.tup (.cons (.int za zA (Zg9 a b)) (.cons (.bool za (Zha a b)) .nil))):=
 Xn (Zw hm hn (l:=[ZaH,Zcu]) ⟨Zkg,Zkk,trivial⟩ (ls:=[]) trivial ze) 400 (Has.of hn Tryz.func71 rfl) (ZrV a b) (Tree.Pre.mk (by refine⟨?_,⟨λ_=>trivial,λ_=>⟨?_,trivial⟩⟩⟩;all_goals(((repeat'(first|exact rfl|exact λ_=>⟨rfl,rfl⟩|apply zy|intro _));all_goals(try simp only[decide_eq_true_eq,decide_eq_false_iff_not]at*);all_goals omega)))) (by kernel_rfl) (by kernel_rfl)
def ZaI:Con:=Yd 71 (λx=>(.cons (.agg (ZaN za (Qa x.hd.inner))) (.cons (.int za .i64 x.tl.hd.toInt) .nil))) (λx=>(.tup (.cons (.int za zA (Zg9 (Qa x.hd.inner) x.tl.hd.toInt)) (.cons (.bool za (Zha (Qa x.hd.inner) x.tl.hd.toInt)) .nil)))) (λx=>(Qa x.hd.inner).n1<=1000/\(Qa x.hd.inner).n2<=1000)
theorem Zkh:ZaI.Ok P:=Yf (λx h=>ZrU _ _ h.1 h.2)
abbrev Zhj(d:Ze)(i:Int)(z:Unit):V:=(.cons (.ptr ze 0 0 0 0) (.cons (.bool ze za) (.cons (.int za .i64 (i+1)) .nil)))
abbrev Zd3(d:Ze)(i:Int)(z:Unit):List Blk:=[.var (Yu d.a),mO d,mN d,mH d]
def wt3_R(d:Ze)(i:Int)(z:Unit):Tree Rd:=
 let q12:=(zl za 2 d.a.n10 λj=>ZC za (d.a.r10 j))
 let q13:=(zl za 3 d.a.n11 λj=>ZF za (d.a.r11 j))
 let q0:=(zf (zl za 2 d.a.n1 λj=>Z9 za (d.a.r1 j)) (zf (zl za 1 d.a.n2 λj=>zf (zn za .u32 (d.a.r2 j).f0) zh) (zf (zl za 4 d.a.n3 λj=>Zv za (d.a.r3 j)) (zf (zl za 4 d.a.n4 λj=>Zt za (d.a.r4 j)) (zf (zl za 2 d.a.n5 λj=>Zu za (d.a.r5 j)) (zf (zl za 11 d.a.n6 λj=>Zy za (d.a.r6 j)) (zf (zl za 2 d.a.n7 λj=>Z0 za (d.a.r7 j)) (zf (zl za 5 d.a.n8 λj=>ZP za (d.a.r8 j)) (ci d.a.f9 (zf q12 (zf q13 (zf (zl za 2 d.a.n12 λj=>ZB za (d.a.r12 j)) (zf (zn za .u64 d.a.f13) (zf (zZ 1) (zf (zZ 2) (zf (zZ 3) zh))))))))))))))))
 let q11:=(bif d.2 (i+(1:Int))then d.3 (i+(1:Int))else(0:Int))
 let q1:=(d.a.r6 (zk q11))
 let q2:=(ci d.a.f9 (zf q12 (zf q13 zh)))
 let q10:=(ci (i+(1:Int)) zh)
 let q3:=(zw (Ex.ret,ze,zf (pt 0) (zf (zC ze za) q10),[zN (Yu d.a),mO d,mN d,mH d]))
 let q4:=(ci d.a.f0 q0=ci d.a.f0 q0/\(YD .i64 (λx=>(d.2 (Zd x),vi (d.3 (Zd x)))) λk=>(d.2 (Zd k),vi (d.3 (Zd k))))/\(YD .i64 (λx=>(d.4 (Zd x),vi (d.5 (Zd x)))) λk=>(d.4 (Zd k),vi (d.5 (Zd k))))/\YD .i64 (λx=>(d.6 (Zd x),vi (d.7 (Zd x)))) λk=>(d.6 (Zd k),vi (d.7 (Zd k))))
 let q5:=(ci q1.f1 (ci q1.f2 (zf (zn za .u32 q1.f3) (ci q1.f4 zh))))
 let q6:=(zw (Ex.normal,ze,zf (pt 0) (zf (zC ze za) (ci (zD .i64 (i+(1:Int)+(1:Int))) zh)),[zN (Yu d.a),mO d,mN d,mH d]))
 let q7:=(zf (zJ q2) q10=zf (zJ q2) q10/\d.a.n10<=(1000:Nat)/\d.a.n11<=(1000:Nat))
 let q15:=(vi (0:Int))
 let q8:=(zf q15 (zf q15 (zf (zn za .u32 (0:Int)) (zf q15 zh))))
 let q9:=(Ze.mk (Yb (Yu d.a)) (λj=>d.2 j) (λj=>d.3 j) (λj=>d.4 j) (λj=>d.5 j) (λj=>d.6 j) λj=>d.7 j)
 let q14:=(bif q1.f3 != (0:Int)then ze else q1.f4 != (0:Int))
 let q16:=(zn ze .i64 (0:Int))
 zB (bif !d.2 (i+(1:Int))then ze else za) (zu q7 (zB (!Zha (Qa q2) (i+(1:Int))==za) q3 (zB (Zg9 (Qa q2) (i+(1:Int)) != (0:Int)) q3 (zu (q4/\zJ q8=zJ q8/\d.a.n8<=(1000:Nat)/\∀(j:Nat),j<d.a.n8->(1:Int)<=(d.a.r8 j).f0/\(d.a.r8 j).f0<=(32:Int)) (zB (bif Zhb q9 (i+(1:Int)) (Je (zf q16 (zf q16 (zf (zn ze .u32 (0:Int)) (zf q16 zh)))))then ze else za) q3 q6))))) (zu (((0:Int)<=bif d.2 (i+(1:Int))then d.3 (i+(1:Int))else(0:Int))/\q11<((d.a.n6:Nat):Int)) (zu q7 (zB (!Zha (Qa q2) (i+(1:Int))==bif bif bif bif bif !bif decide (q1.f1>=(0:Int))then bif decide (q1.f1<=(3:Int))then bif decide (q1.f2>=(0:Int))then bif decide (q1.f2<=(15:Int))then bif decide (q1.f4>=(0:Int))then decide (q1.f4<=(1125899906842624:Int))else za else za else za else za else za then ze else !q14==(q1.f1==(3:Int))then ze else za then ze else q1.f4==(0:Int)then ze else za then za else ze) q3 (zB (Zg9 (Qa q2) (i+(1:Int)) != bif bif bif bif bif !bif decide (q1.f1>=(0:Int))then bif decide (q1.f1<=(3:Int))then bif decide (q1.f2>=(0:Int))then bif decide (q1.f2<=(15:Int))then bif decide (q1.f4>=(0:Int))then decide (q1.f4<=(1125899906842624:Int))else za else za else za else za else za then ze else !q14==(q1.f1==(3:Int))then ze else za then ze else q1.f4==(0:Int)then ze else za then(0:Int)else q1.f4) q3 (zu (q4/\zJ q5=zJ q5/\d.a.n8<=(1000:Nat)/\∀(j:Nat),j<d.a.n8->(1:Int)<=(d.a.r8 j).f0/\(d.a.r8 j).f0<=(32:Int)) (zB (bif Zhb q9 (i+(1:Int)) (Je q5)then ze else za) q3 q6))))))
theorem wt3_round(d:Ze):Yi P { (Zl P [ZaL,ZaI] [] ze)with hk:=Ww [⟨72,Zaj⟩] } 39 16 4 4 103 [0,2,7] [(0,.own),(1,.own),(2,.own),(3,.own)] [] (Zhj d) (Zd3 d) (λi=>(bif decide (i+(1:Int)<=(16:Int))then za else ze)) (.exit 4) (wt3_R d):=λB i z=>by kernel_rfl
def Zju(d:Ze)(k:Nat):Bool:=(wt3_R d k ()).early
abbrev wt3_ets(d:Ze)(i:Int)(z:Unit):V:=(.cons (zQ ze 0 0 0 0) (.cons (zC ze za) (.cons .junk .nil)))
def Zhi(d:Ze):Lp:=lpL 39 16 4 4 103 [0,2,7] [(0,.own),(1,.own),(2,.own),(3,.own)] [] (Zhj d) (Zd3 d) (.exit 4) .ret () (λ_=>()) (Zju d) (17-1) (wt3_ets d) (Zd3 d)
def wt3_need(d:Ze):Prop:=YC 4 [] (Zhj d) (Zd3 d) () (Zhj d (0:Nat) ()) (Zd3 d (0:Nat) ())
theorem wt3_fit(d:Ze):wt3_need d:=⟨rfl,⟨rfl,⟨rfl,λ_=>⟨rfl,rfl⟩⟩,⟨rfl,λ_=>⟨rfl,rfl⟩⟩,⟨rfl,λ_=>⟨rfl,rfl⟩⟩,trivial⟩⟩
theorem wt3_lp_ok(d:Ze)(hl:d.a.n8<=1000)(hl10:d.a.n10<=1000)(hl11:d.a.n11<=1000)(hO:∀j:Int,d.oh j=ze->0<=d.og j/\d.og j<d.a.n6)(hN:∀j:Nat,j<d.a.n8->1<=(d.a.r8 j).f0/\(d.a.r8 j).f0<=32):(Zhi d).Ok P:=by
 refine YR ((Zw hm hn (l:=[ZaL,ZaI]) ⟨Zkj,Zkh,trivial⟩ (ls:=[]) trivial ze).KD (l:=[⟨72,Zaj⟩]) ⟨ZmF,trivial⟩) rfl (by kernel_rfl) (wt3_round d) exN (hcBy (q:=λi:Int=>(i:Int)+1<=16) λi hi=>⟨λh=>(by have h2:(i:Int)+1<=16:=h;omega),λ_=>(by show(i:Int)+1<=16;omega)⟩) (λ_=>rfl) (step:=λ_ z=>z) (rd:=(λ_ t y=>())) (λi z=>rfl) (λi=>rfl) rfl (λi hlt hg=>?_) (λi z hi=>?_)
 ·have hltI:(i:Int)+1<((17:Nat):Int):=by omega
  refine⟨λhb0=>⟨?_,⟨λhb1=>trivial,λhb1=>⟨λhb2=>trivial,λhb2=>⟨?_,⟨λhb3=>trivial,λhb3=>trivial⟩⟩⟩⟩⟩,λhb0=>⟨?_,⟨?_,⟨λhb1=>trivial,λhb1=>⟨λhb2=>trivial,λhb2=>⟨?_,⟨λhb3=>trivial,λhb3=>trivial⟩⟩⟩⟩⟩⟩⟩
  all_goals(repeat'(first|exact rfl|exact λ_=>⟨rfl,rfl⟩|apply zy|intro _))
  all_goals(try simp only[decide_eq_true_eq,decide_eq_false_iff_not,yg,yw]at*)
  all_goals(try simp(disch:=omega) only[IntWalk.i64_in])
  all_goals(first|omega|exact(Q5 ‹_› (hO _)).1|exact(Q5 ‹_› (hO _)).2|exact hN|exact(hN _ (by assumption)).1|exact(hN _ (by assumption)).2)
 ·have hw:=(IntWalk.i64_in (((i:Int)+1)+1) ⟨by omega,by omega⟩)
  refine⟨⟨?_,⟨?_,⟨?_,?_⟩⟩⟩,⟨?_,⟨?_,⟨?_,?_⟩⟩⟩⟩
  all_goals(first|(rw[hw];exact⟨rfl,Le.soft rfl,Z5 _⟩)|exact⟨rfl,rfl,(by repeat'(first|exact Le.refl _|exact Le.junk _ rfl|apply Le.cons)),Z5 _⟩)
def vWaited_T(d:Ze):Tree (V×List Blk):=
 let q11:=(zl za 5 d.a.n8 λj=>ZP za (d.a.r8 j))
 let q10:=(zl za 3 d.a.n11 λj=>ZF za (d.a.r11 j))
 let q0:=(zf (zl za 2 d.a.n1 λj=>Z9 za (d.a.r1 j)) (zf (zl za 1 d.a.n2 λj=>zf (zn za .u32 (d.a.r2 j).f0) zh) (zf (zl za 4 d.a.n3 λj=>Zv za (d.a.r3 j)) (zf (zl za 4 d.a.n4 λj=>Zt za (d.a.r4 j)) (zf (zl za 2 d.a.n5 λj=>Zu za (d.a.r5 j)) (zf (zl za 11 d.a.n6 λj=>Zy za (d.a.r6 j)) (zf (zl za 2 d.a.n7 λj=>Z0 za (d.a.r7 j)) (zf q11 (ci d.a.f9 (zf (zl za 2 d.a.n10 λj=>ZC za (d.a.r10 j)) (zf q10 (zf (zl za 2 d.a.n12 λj=>ZB za (d.a.r12 j)) (zf (zn za .u64 d.a.f13) (zf (zZ 1) (zf (zZ 2) (zf (zZ 3) zh))))))))))))))))
 let q1:=[zN (Yu d.a),Blk.Zk (MK.int .i64) za (λk=>(d.2 (Zd k),vi (d.3 (Zd k)))) zm,Blk.Zk (MK.int .i64) za (λk=>(d.4 (Zd k),vi (d.5 (Zd k)))) zm,Blk.Zk (MK.int .i64) za (λk=>(d.6 (Zd k),vi (d.7 (Zd k)))) zm]
 let q2:=(zA=zA/\YD .i64 (λx=>(d.2 (Zd x),vi (d.3 (Zd x)))) λk=>(d.2 (Zd k),vi (d.3 (Zd k))))
 let q3:=(zA=zA/\YD .i64 (λx=>(d.4 (Zd x),vi (d.5 (Zd x)))) λk=>(d.4 (Zd k),vi (d.5 (Zd k))))
 let q4:=(zA=zA/\YD .i64 (λx=>(d.6 (Zd x),vi (d.7 (Zd x)))) λk=>(d.6 (Zd k),vi (d.7 (Zd k))))
 let q5:=(zf (zC za za) (zf q10 (ci ((d.a.n11:Nat):Int) (ci (0:Int) zh))))
 let q6:=(zf (zC za za) (zf q11 (ci ((d.a.n8:Nat):Int) (ci (0:Int) zh))))
 let q7:=(vi d.a.f0)
 let q8:=(zw (zC ze za,q1))
 let q9:=(zf (zC za za) (ci (1:Int) zh))
 zB (bif d.a.f9 != d.a.f0 then ze else za) q8 (zu (zf (zQ za 0 0 0 0) q6=zf (zQ za 0 0 0 0) q6/\zf q7 q0=zf q7 q0/\q2/\q3/\q4/\True) (zB (bif Zp (Zjs d) d.a.n8 then ze else za) q8 (zu (zf (zQ za 0 0 0 0) q5=zf (zQ za 0 0 0 0) q5/\zf q7 q0=zf q7 q0/\q2/\q3/\q4/\True) (zB (bif Zp (Zjt d) d.a.n11 then ze else za) q8 (zu (zf (zQ za 0 0 0 0) q9=zf (zQ za 0 0 0 0) q9/\zf q7 q0=zf q7 q0/\q2/\q3/\q4/\True) (zB (bif Zp (Zju d) ((17:Nat)-(1:Nat))then ze else za) q8 (zw (zC ze ze,q1))))))))
theorem ZrZ(d:Ze):evH { (Zl P [ZaL,ZaI] [Zhg d,Zhh d,Zhi d] ze)with hk:=Ww [⟨72,Zaj⟩] } 400 39 (.cons (.ptr ze 0 0 0 0) .nil) (Yt d)=vWaited_T d:=by kernel_rfl
def K5(d:Ze):Bool:=
  (bif bif d.a.f9 != d.a.f0 then ze else za then(za)else(bif bif Zp (Zjs d) d.a.n8 then ze else za then(za)else(bif bif Zp (Zjt d) d.a.n11
  then ze else za then(za)else(bif bif Zp (Zju d) ((17:Nat)-(1:Nat))then ze else za then(za)else(ze)))))
theorem ZrX(d:Ze)(h0:d.a.n8<=1000)(h1:d.a.n10<=1000)(h2:d.a.n11<=1000)(h3:∀j:Int,d.oh j=ze->0<=d.og j/\d.og j<d.a.n6)(h4:∀j:Nat,j<d.a.n8->1<=(d.a.r8 j).f0/\(d.a.r8 j).f0<=32):YG P 39 (.cons (.ptr ze 0 0 0 0) .nil) (Yt d) (.leaf (.bool za (K5 d),Yt d)):=by
 refine GH (E:={ (Zl P [ZaL,ZaI] [Zhg d,Zhh d,Zhi d] ze)with hk:=Ww [⟨72,Zaj⟩] }) ((Zw hm hn (l:=[ZaL,ZaI]) ⟨Zkj,Zkh,trivial⟩ (ls:=[Zhg d,Zhh d,Zhi d]) ⟨wt1_lp_ok d h0 h3,wt2_lp_ok d h2 h3,wt3_lp_ok d h0 h1 h2 h3 h4,trivial⟩ ze).KD (l:=[⟨72,Zaj⟩]) ⟨ZmF,trivial⟩) (ZrZ d) ((cC rfl (cC rfl (cC rfl (cC rfl rfl))))) ⟨⟨rfl,rfl⟩,⟨⟨rfl,rfl⟩,⟨⟨rfl,rfl⟩,⟨⟨rfl,rfl⟩,⟨rfl,rfl⟩⟩⟩⟩⟩ ?_
 refine⟨λhb0=>trivial,λhb0=>⟨?_,⟨λhb1=>trivial,λhb1=>⟨?_,⟨λhb2=>trivial,λhb2=>⟨?_,⟨λhb3=>trivial,λhb3=>trivial⟩⟩⟩⟩⟩⟩⟩
 all_goals((repeat'(first|exact wt1_fit d|exact wt2_fit d|exact wt3_fit d|exact rfl|exact λ_=>⟨rfl,rfl⟩|apply zy|intro _));all_goals(try simp only[decide_eq_true_eq,decide_eq_false_iff_not]at*);all_goals(first|omega|exact wt1_fit d|exact wt2_fit d|exact wt3_fit d))
def ZbR:HK:=λargs bl=>match args,bl with
 |(.cons (.ptr ze 0 0 0 0) .nil),[.var c,.Zk (.int .i64) _ fo _,.Zk (.int .i64) _ fn _,.Zk (.int .i64) _ fh _]=>zi (c.QV λc=>.need (UD c fo fn fh/\(λ(d:Ze)=>d.a.n8<=1000/\d.a.n10<=1000/\d.a.n11<=1000/\(∀j:Int,d.oh j=ze->0<=d.og j/\d.og j<d.a.n6)/\(∀j:Nat,j<d.a.n8->1<=(d.a.r8 j).f0/\(d.a.r8 j).f0<=32)) (Xr c fo fn fh)) (.leaf (.bool za (K5 (Xr c fo fn fh)),Yt (Xr c fo fn fh))))
 |_,_=>zm
theorem ZrY:Xo P 39 ZbR:=by
 intro args bl T hT
 unfold ZbR at hT
 split at hT
 ·rename_i c q1 fo q2 q3 fn q4 q5 fh q6
  injection hT with hT
  subst hT
  intro base mm F w xs Q KK h1 h2 hq hk
  simp only[V.Jp]at hq
  obtain⟨hp,hq⟩:=hq
  exact YG.le (bl:=[.var c,.Zk (.int .i64) q1 fo q2,.Zk (.int .i64) q3 fn q4,.Zk (.int .i64) q5 fh q6]) (ZrX (Xr c fo fn fh) hp.2.1 hp.2.2.1 hp.2.2.2.1 hp.2.2.2.2.1 hp.2.2.2.2.2) rfl (λb=>Zak hp.1 b) base mm F w xs Q KK h1 h2 hq hk
 ·cases hT
abbrev ZdA(d:Ze)(i:Int)(z:Int):V:=(.cons (.ptr ze 0 0 0 0) (.cons (.bool ze za) (.cons (.int za .i64 (z)) (.cons (.rsl za 2 (Za.n12 (Ze.a d)) (λj=>ZB za ((Ze.a d).r12 j))) (.cons (.int za .i64 (((Za.n12 (Ze.a d)):Nat):Int)) (.cons (.int za .i64 i) .nil))))))
abbrev ZdB(d:Ze)(i:Int)(z:Int):List Blk:=[.var (Yu d.a),mO d,mN d,mH d]
def pl1_R(d:Ze)(i:Int)(z:Int):Tree Rd:=
 let q7:=(zl za 2 d.a.n12 λjj=>ZB za (d.a.r12 jj))
 let q0:=(zw (Ex.ret,ze,zf (pt 0) (zf (zC ze za) (ci z (zf q7 (ci ((d.a.n12:Nat):Int) (ci i zh))))),[zN (Yu d.a),mO d,mN d,mH d]))
 let q6:=(bif d.2 (d.a.r12 (zk i)).f0 then d.3 (d.a.r12 (zk i)).f0 else(0:Int))
 let q1:=(d.a.r6 (zk q6))
 let q2:=(bif d.6 (d.a.r12 (zk i)).f0 then d.7 (d.a.r12 (zk i)).f0 else(0:Int))
 let q3:=(zf (zl za 4 d.a.n3 λj=>Zv za (d.a.r3 j)) (zf (zl za 4 d.a.n4 λj=>Zt za (d.a.r4 j)) zh))
 let q4:=(zw (Ex.normal,ze,zf (pt 0) (zf (zC ze za) (ci (d.a.r12 (zk i)).f1 (zf q7 (ci ((d.a.n12:Nat):Int) (ci (zD .i64 (i+(1:Int))) zh))))),[zN (Yu d.a),mO d,mN d,mH d]))
 let q5:=(zD .u32 ((yF (yc (zY .u32) (Wu (ZQ q3) (d.a.r12 (zk i)).f0)&&& yc (zY .u32) (d.a.r2 (zk (d.a.r3 (zk q2)).f3)).f0):Nat):Int))
 let q8:=(ci (d.a.r12 (zk i)).f0 zh)
 zu ((0:Int)<=i/\i<((d.a.n12:Nat):Int)) (zB (decide ((d.a.r12 (zk i)).f1<=z)) q0 (zB ((bif d.4 (d.a.r12 (zk i)).f0 then d.5 (d.a.r12 (zk i)).f0 else(0:Int)) != (d.a.r12 (zk i)).f1) q0 (zB (bif !d.2 (d.a.r12 (zk i)).f0 then ze else za) q0 (zu (((0:Int)<=bif d.2 (d.a.r12 (zk i)).f0 then d.3 (d.a.r12 (zk i)).f0 else(0:Int))/\q6<((d.a.n6:Nat):Int)) (zB (!bif bif bif !bif decide (q1.f1>=(0:Int))then bif decide (q1.f1<=(3:Int))then bif decide (q1.f2>=(0:Int))then bif decide (q1.f2<=(15:Int))then bif decide (q1.f4>=(0:Int))then decide (q1.f4<=(1125899906842624:Int))else za else za else za else za else za then ze else !(bif q1.f3 != (0:Int)then ze else q1.f4 != (0:Int))==(q1.f1==(3:Int))then ze else za then za else q1.f1==(1:Int)&&(q1.f2==(0:Int)&&(q1.f3==(0:Int)&&(q1.f4==(0:Int)&&ze)))) q0 (zu (((0:Int)<=bif d.6 (d.a.r12 (zk i)).f0 then d.7 (d.a.r12 (zk i)).f0 else(0:Int))/\q2<((d.a.n7:Nat):Int)) (zB (bif bif bif bif bif bif bif decide ((d.a.r7 (zk q2)).f0<(0:Int))then ze else decide ((d.a.r7 (zk q2)).f0>(800:Int))then ze else za then ze else za then ze else za then ze else bif bif bif bif bif decide ((d.a.r7 (zk q2)).f1<(-8000000000:Int))then ze else decide ((d.a.r7 (zk q2)).f1>zD .i64 ((d.a.r7 (zk q2)).f0*(100000000:Int)))then ze else za then ze else za then ze else za then ze else bif (d.a.r7 (zk q2)).f0==(0:Int)then !((d.a.r7 (zk q2)).f0==(0:Int)&&((d.a.r7 (zk q2)).f1==(0:Int)&&ze))else za then ze else za then za else bif decide ((d.a.r7 (zk q2)).f0>(0:Int))then decide ((d.a.r7 (zk q2)).f1<=(0:Int))else za) q0 (zu (zf (zJ q3) q8=zf (zJ q3) q8/\d.a.n3<=(1000:Nat)/\d.a.n4<=(1000:Nat)) (zu (((0:Int)<=bif d.6 (d.a.r12 (zk i)).f0 then d.7 (d.a.r12 (zk i)).f0 else(0:Int))/\q2<((d.a.n3:Nat):Int)) (zu ((0:Int)<=(d.a.r3 (zk q2)).f3/\(d.a.r3 (zk q2)).f3<((d.a.n2:Nat):Int)) (zB (bif bif decide ((d.a.r12 (zk i)).f1<(0:Int))then ze else decide ((d.a.r12 (zk i)).f1>=(8:Int))then ze else za) (zB (bif !zD .u32 ((yF (yc (zY .u32) q5&&& yc (zY .u32) (0:Int)):Nat):Int) != (0:Int)then ze else za) q0 q4) (zu ((0:Int)<=(d.a.r12 (zk i)).f1) (zB (bif !zD .u32 ((yF (yc (zY .u32) q5&&& yc (zY .u32) (zD .u32 ((1:Int)*(2:Int)^min (zk (d.a.r12 (zk i)).f1) (zY .u32)))):Nat):Int) != (0:Int)then ze else za) q0 q4)))))))))))))
theorem pl1_round(d:Ze):Yi P (Zl P [JH,Zaw,X8] [] ze) 40 3 4 4 146 [0,2,3,22,23,24] [(0,.own),(1,.own),(2,.own),(3,.own)] [] (ZdA d) (ZdB d) (λi=>(bif decide (i<((d.a.n12:Nat):Int))then za else ze)) (.exit 0) (pl1_R d):=λB i z=>by kernel_rfl
def Zi9(d:Ze)(k:Nat)(z:Int):Int:=(λ(i:Int)(z:Int)=>
 let q0:=(d.a.r6 (zk (bif d.2 (d.a.r12 (zk i)).f0 then d.3 (d.a.r12 (zk i)).f0 else(0:Int))))
 let q1:=(zk (bif d.6 (d.a.r12 (zk i)).f0 then d.7 (d.a.r12 (zk i)).f0 else(0:Int)))
 let q2:=(zD .u32 ((yF (yc (zY .u32) (Wu (ZQ (zf (zl za 4 d.a.n3 λj=>Zv za (d.a.r3 j)) (zf (zl za 4 d.a.n4 λj=>Zt za (d.a.r4 j)) zh))) (d.a.r12 (zk i)).f0)&&& yc (zY .u32) (d.a.r2 (zk (d.a.r3 q1).f3)).f0):Nat):Int))
 (bif decide ((d.a.r12 (zk i)).f1<=z)then(z)else(bif (bif d.4 (d.a.r12 (zk i)).f0 then d.5 (d.a.r12 (zk i)).f0 else(0:Int)) != (d.a.r12 (zk i)).f1 then(z)else(bif bif !d.2 (d.a.r12 (zk i)).f0 then ze else za then(z)else(bif !bif bif bif !bif decide (q0.f1>=(0:Int))then bif decide (q0.f1<=(3:Int))then bif decide (q0.f2>=(0:Int))then bif decide (q0.f2<=(15:Int))then bif decide (q0.f4>=(0:Int))then decide (q0.f4<=(1125899906842624:Int))else za else za else za else za else za then ze else !(bif q0.f3 != (0:Int)then ze else q0.f4 != (0:Int))==(q0.f1==(3:Int))then ze else za then za else q0.f1==(1:Int)&&(q0.f2==(0:Int)&&(q0.f3==(0:Int)&&(q0.f4==(0:Int)&&ze)))then(z)else(bif bif bif bif bif bif bif bif decide ((d.a.r7 q1).f0<(0:Int))then ze else decide ((d.a.r7 q1).f0>(800:Int))then ze else za then ze else za then ze else za then ze else bif bif bif bif bif decide ((d.a.r7 q1).f1<(-8000000000:Int))then ze else decide ((d.a.r7 q1).f1>zD .i64 ((d.a.r7 q1).f0*(100000000:Int)))then ze else za then ze else za then ze else za then ze else bif (d.a.r7 q1).f0==(0:Int)then !((d.a.r7 q1).f0==(0:Int)&&((d.a.r7 q1).f1==(0:Int)&&ze))else za then ze else za then za else bif decide ((d.a.r7 q1).f0>(0:Int))then decide ((d.a.r7 q1).f1<=(0:Int))else za then(z)else(bif bif bif decide ((d.a.r12 (zk i)).f1<(0:Int))then ze else decide ((d.a.r12 (zk i)).f1>=(8:Int))then ze else za then(bif bif !zD .u32 ((yF (yc (zY .u32) q2&&& yc (zY .u32) (0:Int)):Nat):Int) != (0:Int)then ze else za then(z)else((d.a.r12 (zk i)).f1))else(bif bif !zD .u32 ((yF (yc (zY .u32) q2&&& yc (zY .u32) (zD .u32 ((1:Int)*(2:Int)^min (zk (d.a.r12 (zk i)).f1) (zY .u32)))):Nat):Int) != (0:Int)then ze else za then(z)else((d.a.r12 (zk i)).f1))))))))) k z
def WR(d:Ze)(k:Nat):Int:=ZJ (-1:Int) (Zi9 d) k
def J3(d:Ze)(k:Nat):Bool:=(λ(i:Int)(z:Int)=>
 let q0:=(d.a.r6 (zk (bif d.2 (d.a.r12 (zk i)).f0 then d.3 (d.a.r12 (zk i)).f0 else(0:Int))))
 let q1:=(zk (bif d.6 (d.a.r12 (zk i)).f0 then d.7 (d.a.r12 (zk i)).f0 else(0:Int)))
 let q2:=(zD .u32 ((yF (yc (zY .u32) (Wu (ZQ (zf (zl za 4 d.a.n3 λj=>Zv za (d.a.r3 j)) (zf (zl za 4 d.a.n4 λj=>Zt za (d.a.r4 j)) zh))) (d.a.r12 (zk i)).f0)&&& yc (zY .u32) (d.a.r2 (zk (d.a.r3 q1).f3)).f0):Nat):Int))
 (bif decide ((d.a.r12 (zk i)).f1<=z)then ze else(bif (bif d.4 (d.a.r12 (zk i)).f0 then d.5 (d.a.r12 (zk i)).f0 else(0:Int)) != (d.a.r12 (zk i)).f1 then ze else(bif bif !d.2 (d.a.r12 (zk i)).f0 then ze else za then ze else(bif !bif bif bif !bif decide (q0.f1>=(0:Int))then bif decide (q0.f1<=(3:Int))then bif decide (q0.f2>=(0:Int))then bif decide (q0.f2<=(15:Int))then bif decide (q0.f4>=(0:Int))then decide (q0.f4<=(1125899906842624:Int))else za else za else za else za else za then ze else !(bif q0.f3 != (0:Int)then ze else q0.f4 != (0:Int))==(q0.f1==(3:Int))then ze else za then za else q0.f1==(1:Int)&&(q0.f2==(0:Int)&&(q0.f3==(0:Int)&&(q0.f4==(0:Int)&&ze)))then ze else(bif bif bif bif bif bif bif bif decide ((d.a.r7 q1).f0<(0:Int))then ze else decide ((d.a.r7 q1).f0>(800:Int))then ze else za then ze else za then ze else za then ze else bif bif bif bif bif decide ((d.a.r7 q1).f1<(-8000000000:Int))then ze else decide ((d.a.r7 q1).f1>zD .i64 ((d.a.r7 q1).f0*(100000000:Int)))then ze else za then ze else za then ze else za then ze else bif (d.a.r7 q1).f0==(0:Int)then !((d.a.r7 q1).f0==(0:Int)&&((d.a.r7 q1).f1==(0:Int)&&ze))else za then ze else za then za else bif decide ((d.a.r7 q1).f0>(0:Int))then decide ((d.a.r7 q1).f1<=(0:Int))else za then ze else(bif bif bif decide ((d.a.r12 (zk i)).f1<(0:Int))then ze else decide ((d.a.r12 (zk i)).f1>=(8:Int))then ze else za then(bif bif !zD .u32 ((yF (yc (zY .u32) q2&&& yc (zY .u32) (0:Int)):Nat):Int) != (0:Int)then ze else za then ze else za)else(bif bif !zD .u32 ((yF (yc (zY .u32) q2&&& yc (zY .u32) (zD .u32 ((1:Int)*(2:Int)^min (zk (d.a.r12 (zk i)).f1) (zY .u32)))):Nat):Int) != (0:Int)then ze else za then ze else za)))))))) k (WR d k)
theorem pl1_ge(d:Ze):∀k:Nat,-1<=WR d k:=by
 intro k
 induction k with
 |zero=>exact Int.le_refl _
 |succ k ih=>
  show -1<=Zi9 d k (WR d k)
  generalize WR d k=z at ih⊢
  unfold Zi9
  dsimp only
  by_cases h:(d.a.r12 k).f1<=z
  ·repeat(first|exact ih|(show -1<=(d.a.r12 k).f1;omega)|(refine cT (decide_eq_true h) rfl▸ih)|(rw[decide_eq_true (show(d.a.r12 (zk (k:Int))).f1<=z from h)]))
  ·have hf:-1<=(d.a.r12 k).f1:=by omega
   repeat(first|exact ih|exact hf|refine WO (p:=λy:Int=>-1<=y) ?_ ?_)
abbrev pl1_ets(d:Ze)(i:Int)(z:Int):V:=(.cons (zQ ze 0 0 0 0) (.cons (zC ze za) (.cons .junk (.cons (zl za 2 d.a.n12 λjj=>ZB za (d.a.r12 jj)) (.cons (zn za .i64 ((d.a.n12:Nat):Int)) (.cons .junk .nil))))))
def ZgG(d:Ze):Lp:=lpL 40 3 4 4 146 [0,2,3,22,23,24] [(0,.own),(1,.own),(2,.own),(3,.own)] [] (ZdA d) (ZdB d) (.exit 0) .ret (-1:Int) (WR d) (J3 d) (Za.n12 (Ze.a d)) (pl1_ets d) (ZdB d)
def pl1_need(d:Ze):Prop:=YC 4 [] (ZdA d) (ZdB d) (-1:Int) (ZdA d (0:Nat) (-1:Int)) (ZdB d (0:Nat) (-1:Int))
theorem pl1_fit(d:Ze):pl1_need d:=⟨rfl,⟨rfl,⟨rfl,λ_=>⟨rfl,rfl⟩⟩,⟨rfl,λ_=>⟨rfl,rfl⟩⟩,⟨rfl,λ_=>⟨rfl,rfl⟩⟩,trivial⟩⟩
theorem pl1_lp_ok(d:Ze)(hl:d.a.n12<=1000)(hO:∀j:Int,d.oh j=ze->0<=d.og j/\d.og j<d.a.n6)(h64:d.a.n6=d.a.n4)(hl3:d.a.n3<=1000)(hl4:d.a.n4<=1000)(hH:0<d.a.n4->∀j:Int,0<=(bif d.hh j then d.hg j else 0)/\(bif d.hh j then d.hg j else 0)<d.a.n3)(hP:0<d.a.n4->∀j:Int,0<=(d.a.r3 (bif d.hh j then d.hg j else 0).toNat).f3/\(d.a.r3 (bif d.hh j then d.hg j else 0).toNat).f3<d.a.n2)(hD:d.a.n7=d.a.n3):(ZgG d).Ok P:=by
 refine YR (Zw hm hn (l:=[JH,Zaw,X8]) ⟨Zct,ZjZ,Ve,trivial⟩ (ls:=[]) trivial ze) rfl (by kernel_rfl) (pl1_round d) exN Yv (λ_=>rfl) (rd:=(λ_ t y=>(t.nth 2).toInt)) (λi z=>(cC rfl (cC rfl (cC rfl (cC rfl (cC rfl (cC (cC rfl rfl) (cC rfl rfl)))))))) (λi=>(cC rfl (cC rfl (cC rfl (cC rfl (cC rfl (cC (cC rfl rfl) (cC rfl rfl)))))))) rfl (λi hlt hg=>?_) (λi z hi=>?_)
 ·have hltI:(i:Int)<(((Za.n12 (Ze.a d)):Nat):Int):=by omega
  refine⟨?_,⟨λhb0=>trivial,λhb0=>⟨λhb1=>trivial,λhb1=>⟨λhb2=>trivial,λhb2=>⟨?_,⟨λhb3=>trivial,λhb3=>⟨?_,⟨λhb4=>trivial,λhb4=>⟨?_,⟨?_,⟨?_,⟨λhb5=>⟨λhb6=>trivial,λhb6=>trivial⟩,λhb5=>⟨?_,⟨λhb6=>trivial,λhb6=>trivial⟩⟩⟩⟩⟩⟩⟩⟩⟩⟩⟩⟩⟩⟩
  all_goals(have hf0:=pl1_ge d i)
  all_goals(repeat'(first|exact rfl|exact λ_=>⟨rfl,rfl⟩|apply zy|intro _))
  all_goals(try simp only[decide_eq_true_eq,decide_eq_false_iff_not,yg,yw]at*)
  all_goals(try simp(disch:=omega) only[IntWalk.i64_in])
  all_goals(first|omega|exact(Q5 ‹_› (hO _)).1|exact(Q5 ‹_› (hO _)).2|exact(hH (by have h2:=Q5 ‹_› (hO _);omega) _).1|exact(hH (by have h2:=Q5 ‹_› (hO _);omega) _).2|exact(hP (by have h2:=Q5 ‹_› (hO _);omega) _).1|exact(hP (by have h2:=Q5 ‹_› (hO _);omega) _).2|exact(by rw[hD];exact(hH (by have h2:=Q5 ‹_› (hO _);omega) _).2))
 ·have hw:=(IntWalk.i64_in ((i:Int)+1) ⟨by omega,by omega⟩)
  refine⟨?_,⟨?_,⟨?_,⟨?_,⟨?_,⟨⟨?_,?_⟩,⟨?_,?_⟩⟩⟩⟩⟩⟩⟩
  all_goals(first|exact⟨rfl,Yq (ts:=ZdA d) hw rfl,Z5 _⟩|exact⟨rfl,rfl,(by repeat'(first|exact Le.refl _|exact Le.junk _ rfl|apply Le.cons)),Z5 _⟩)
abbrev ZdC(d:Ze)(i:Int)(z:Unit):V:=(.cons (.ptr ze 0 0 0 0) (.cons (.bool ze za) (.cons (.rsl za 11 (Za.n6 (Ze.a d)) (λj=>Zy za ((Ze.a d).r6 j))) (.cons (.int za .i64 (((Za.n6 (Ze.a d)):Nat):Int)) (.cons (.int za .i64 i) .nil)))))
abbrev ZdD(d:Ze)(i:Int)(z:Unit):List Blk:=[.var (Yu d.a),mO d,mN d,mH d]
def pl2_R(d:Ze)(i:Int)(z:Unit):Tree Rd:=
 let q0:=(zl za 11 d.a.n6 λjj=>Zy za (d.a.r6 jj))
 zu ((0:Int)<=i/\i<((d.a.n6:Nat):Int)) (zB (bif bif bif !d.4 (d.a.r6 (zk i)).f0 then decide ((d.a.r6 (zk i)).f9>d.a.f0)else za then ze else za then ze else za) (zw (Ex.ret,ze,zf (pt 0) (zf (zC ze za) (zf q0 (ci ((d.a.n6:Nat):Int) (ci i zh)))),[zN (Yu d.a),mO d,mN d,mH d])) (zw (Ex.normal,ze,zf (pt 0) (zf (zC ze za) (zf q0 (ci ((d.a.n6:Nat):Int) (ci (zD .i64 (i+(1:Int))) zh)))),[zN (Yu d.a),mO d,mN d,mH d])))
theorem pl2_round(d:Ze):Yi P (Zl P [JH] [] ze) 40 10 4 4 146 [0,2,74,75,76] [(0,.own),(1,.own),(2,.own),(3,.own)] [] (ZdC d) (ZdD d) (λi=>(bif decide (i<((d.a.n6:Nat):Int))then za else ze)) (.exit 2) (pl2_R d):=λB i z=>by kernel_rfl
def Zaa(d:Ze)(k:Nat):Bool:=(pl2_R d k ()).early
abbrev pl2_ets(d:Ze)(i:Int)(z:Unit):V:=(.cons (zQ ze 0 0 0 0) (.cons (zC ze za) (.cons (zl za 11 d.a.n6 λjj=>Zy za (d.a.r6 jj)) (.cons (zn za .i64 ((d.a.n6:Nat):Int)) (.cons .junk .nil)))))
def ZgH(d:Ze):Lp:=lpL 40 10 4 4 146 [0,2,74,75,76] [(0,.own),(1,.own),(2,.own),(3,.own)] [] (ZdC d) (ZdD d) (.exit 2) .ret () (λ_=>()) (Zaa d) (Za.n6 (Ze.a d)) (pl2_ets d) (ZdD d)
def pl2_need(d:Ze):Prop:=YC 4 [] (ZdC d) (ZdD d) () (ZdC d (0:Nat) ()) (ZdD d (0:Nat) ())
theorem pl2_fit(d:Ze):pl2_need d:=⟨rfl,⟨rfl,⟨rfl,λ_=>⟨rfl,rfl⟩⟩,⟨rfl,λ_=>⟨rfl,rfl⟩⟩,⟨rfl,λ_=>⟨rfl,rfl⟩⟩,trivial⟩⟩
theorem pl2_lp_ok(d:Ze)(hl:d.a.n6<=1000):(ZgH d).Ok P:=by
 refine YR (Zw hm hn (l:=[JH]) ⟨Zct,trivial⟩ (ls:=[]) trivial ze) rfl (by kernel_rfl) (pl2_round d) exN Yv (λ_=>rfl) (step:=λ_ z=>z) (rd:=(λ_ t y=>())) (λi z=>rfl) (λi=>rfl) rfl (λi hlt hg=>?_) (λi z hi=>?_)
 ·have hltI:(i:Int)<(((Za.n6 (Ze.a d)):Nat):Int):=by omega
  refine⟨?_,⟨λhb0=>trivial,λhb0=>trivial⟩⟩
  all_goals(repeat'(first|exact rfl|exact λ_=>⟨rfl,rfl⟩|apply zy|intro _))
  all_goals(try simp only[decide_eq_true_eq,decide_eq_false_iff_not,yg,yw]at*)
  all_goals(try simp(disch:=omega) only[IntWalk.i64_in])
  all_goals(first|omega)
 ·have hw:=(IntWalk.i64_in ((i:Int)+1) ⟨by omega,by omega⟩)
  refine⟨?_,?_⟩
  all_goals(first|exact⟨rfl,Yq (ts:=ZdC d) (a:=()) hw rfl,Z5 _⟩|exact⟨rfl,rfl,(by repeat'(first|exact Le.refl _|exact Le.junk _ rfl|apply Le.cons)),Z5 _⟩)
abbrev pl4_ts(d:Ze)(w:Int)(m:Nat)(r:Nat->DT3)(i:Int)(z:Int×Int):V:=(.cons (.ptr ze 0 0 0 0) (.cons (.bool ze za) (.cons (.int za .i64 (z.1)) (.cons (.int za .i64 (z.2)) (.cons (.rsl za 2 d.a.n5 (λj=>Zu za (d.a.r5 j))) (.cons (.int za .i64 ((d.a.n5:Nat):Int)) (.cons (.int za .i64 w) (.cons (.rsl za 1 m (λj=>ZK za (r j))) (.cons (.int za .i64 ((m:Nat):Int)) (.cons (.int za .i64 i) .nil))))))))))
abbrev pl4_ys(d:Ze)(w:Int)(m:Nat)(r:Nat->DT3)(i:Int)(z:Int×Int):List Blk:=[.var (Yu d.a),mO d,mN d,mH d]
def pl4_R(d:Ze)(w:Int)(m:Nat)(r:Nat->DT3)(i:Int)(z:Int×Int):Tree Rd:=
 let q1:=(bif d.2 (r (zk i)).f0 then d.3 (r (zk i)).f0 else(0:Int))
 let q0:=(d.a.r6 (zk q1))
 zu (((0:Int)<=i/\i<(m:Int))/\(d.4 (r (zk i)).f0=za->(bif !d.2 (r (zk i)).f0 then ze else za)=za->((0:Int)<=bif d.2 (r (zk i)).f0 then d.3 (r (zk i)).f0 else(0:Int))/\q1<((d.a.n6:Nat):Int))) (zw (Ex.normal,ze,zf (pt 0) (zf (zC ze za) (ci (bif d.4 (r (zk i)).f0 then zD .i64 (zR z+(1:Int))else zR z) (ci (bif d.4 (r (zk i)).f0 then zx z else bif bif !d.2 (r (zk i)).f0 then ze else za then zx z else bif bif bif bif !bif decide (q0.f1>=(0:Int))then bif decide (q0.f1<=(3:Int))then bif decide (q0.f2>=(0:Int))then bif decide (q0.f2<=(15:Int))then bif decide (q0.f4>=(0:Int))then decide (q0.f4<=(1125899906842624:Int))else za else za else za else za else za then ze else !(bif q0.f3 != (0:Int)then ze else q0.f4 != (0:Int))==(q0.f1==(3:Int))then ze else za then za else q0.f1==(1:Int)&&(q0.f2==(0:Int)&&(q0.f3==(0:Int)&&(q0.f4==(0:Int)&&ze)))then zD .i64 (zx z+(1:Int))else zx z) (zf (zl za 2 d.a.n5 λjj=>Zu za (d.a.r5 jj)) (ci ((d.a.n5:Nat):Int) (ci w (zf (zl za 1 m λjj=>ci (r jj).f0 zh) (ci (m:Int) (ci (zD .i64 (i+(1:Int))) zh))))))))),[zN (Yu d.a),mO d,mN d,mH d]))
theorem pl4_round(d:Ze)(w:Int)(m:Nat)(r:Nat->DT3):Yi P (Zl P [JH] [] ze) 40 21 5 5 146 [0,2,12,13,108,109,110,115,116,117] [(0,.own),(1,.own),(2,.own),(3,.own)] [] (pl4_ts d w m r) (pl4_ys d w m r) (λi=>(bif decide (i<(m:Int))then za else ze)) (.exit 6) (pl4_R d w m r):=λB i z=>by kernel_rfl
def ZgJ(d:Ze)(m:Nat)(r:Nat->DT3)(k:Nat)(z:Int×Int):Int×Int:=(λ(i:Int)(z:Int×Int)=>
 let q0:=(d.a.r6 (zk (bif d.2 (r (zk i)).f0 then d.3 (r (zk i)).f0 else(0:Int))))
 ((bif d.4 (r (zk i)).f0 then zD .i64 (zR z+(1:Int))else zR z,bif d.4 (r (zk i)).f0 then zx z else bif bif !d.2 (r (zk i)).f0 then ze else za then zx z else bif bif bif bif !bif decide (q0.f1>=(0:Int))then bif decide (q0.f1<=(3:Int))then bif decide (q0.f2>=(0:Int))then bif decide (q0.f2<=(15:Int))then bif decide (q0.f4>=(0:Int))then decide (q0.f4<=(1125899906842624:Int))else za else za else za else za else za then ze else !(bif q0.f3 != (0:Int)then ze else q0.f4 != (0:Int))==(q0.f1==(3:Int))then ze else za then za else q0.f1==(1:Int)&&(q0.f2==(0:Int)&&(q0.f3==(0:Int)&&(q0.f4==(0:Int)&&ze)))then zD .i64 (zx z+(1:Int))else zx z))) k z
def Q7(d:Ze)(m:Nat)(r:Nat->DT3)(k:Nat):Int×Int:=ZJ (0,0) (ZgJ d m r) k
def pl4_lp(d:Ze)(w:Int)(m:Nat)(r:Nat->DT3):Lp:=Js 40 21 5 5 146 [0,2,12,13,108,109,110,115,116,117] [(0,.own),(1,.own),(2,.own),(3,.own)] [] (pl4_ts d w m r) (pl4_ys d w m r) (.exit 6) (0,0) (Q7 d m r) (m)
theorem pl4_lp_ok(d:Ze)(w:Int)(m:Nat)(r:Nat->DT3)(hl:m<=1000)(hO:∀j:Int,d.oh j=ze->0<=d.og j/\d.og j<d.a.n6):(pl4_lp d w m r).Ok P:=by
 refine JZ (Zw hm hn (l:=[JH]) ⟨Zct,trivial⟩ (ls:=[]) trivial ze) rfl (by kernel_rfl) (pl4_round d w m r) exN Yv (λ_=>rfl) (rd:=(λ_ t y=>((t.nth 2).toInt,(t.nth 3).toInt))) (λi z=>rfl) (λi=>rfl) rfl (λi hlt hg=>?_) (λi z hi=>?_)
 ·have hltI:(i:Int)<((m:Nat):Int):=by omega
  refine⟨?_,trivial⟩
  all_goals(repeat'(first|exact rfl|exact λ_=>⟨rfl,rfl⟩|apply zy|intro _))
  all_goals(try simp only[decide_eq_true_eq,decide_eq_false_iff_not,yg,yw]at*)
  all_goals(try simp(disch:=omega) only[IntWalk.i64_in])
  all_goals(first|omega|exact(Q5 ‹_› (hO _)).1|exact(Q5 ‹_› (hO _)).2)
 ·have hw:=(IntWalk.i64_in ((i:Int)+1) ⟨by omega,by omega⟩)
  all_goals exact⟨rfl,Yq (ts:=pl4_ts d w m r) hw rfl,Z5 _⟩
def pl4_in(d:Ze):Lp:=⟨40,21,λ_ s=>(s.tmp 110).VH .stuck λw=>(s.tmp 115).G7 .stuck λm r115=>.need ((λ(d:Ze)(w:Int)(m:Nat)(r:Nat->DT3)=>m<=1000) d w m (λj=>Zx (r115 j))) ((pl4_lp d w m (λj=>Zx (r115 j))).g _ s)⟩
theorem pl4_in_ok(d:Ze)(hO:∀j:Int,d.oh j=ze->0<=d.og j/\d.og j<d.a.n6):(pl4_in d).Ok P:=by
 intro body hin hfr B s Q hq
 obtain⟨w,hq⟩:=Uu hq
 obtain⟨m,r115,hq⟩:=Zbu hq
 exact pl4_lp_ok d w m (λj=>Zx (r115 j)) hq.1 hO body hin hfr B s Q hq.2
abbrev ZdE(d:Ze)(i:Int)(z:Unit):V:=(.cons (.ptr ze 0 0 0 0) (.cons (.bool ze za) (.cons (.rsl za 2 (Za.n5 (Ze.a d)) (λj=>Zu za ((Ze.a d).r5 j))) (.cons (.int za .i64 (((Za.n5 (Ze.a d)):Nat):Int)) (.cons (.int za .i64 i) .nil)))))
abbrev ZdF(d:Ze)(i:Int)(z:Unit):List Blk:=[.var (Yu d.a),mO d,mN d,mH d]
def pl3_R(d:Ze)(i:Int)(z:Unit):Tree Rd:=
 let q5:=(zl za 2 d.a.n5 λj=>Zu za (d.a.r5 j))
 let q0:=(zf (zl za 2 d.a.n1 λj=>Z9 za (d.a.r1 j)) (zf (zl za 1 d.a.n2 λj=>zf (zn za .u32 (d.a.r2 j).f0) zh) (zf (zl za 4 d.a.n3 λj=>Zv za (d.a.r3 j)) (zf (zl za 4 d.a.n4 λj=>Zt za (d.a.r4 j)) (zf q5 (zf (zl za 11 d.a.n6 λj=>Zy za (d.a.r6 j)) (zf (zl za 2 d.a.n7 λj=>Z0 za (d.a.r7 j)) (zf (zl za 5 d.a.n8 λj=>ZP za (d.a.r8 j)) (ci d.a.f9 (zf (zl za 2 d.a.n10 λj=>ZC za (d.a.r10 j)) (zf (zl za 3 d.a.n11 λj=>ZF za (d.a.r11 j)) (zf (zl za 2 d.a.n12 λj=>ZB za (d.a.r12 j)) (zf (zn za .u64 d.a.f13) (zf (zZ 1) (zf (zZ 2) (zf (zZ 3) zh))))))))))))))))
 let q6:=(vi (0:Int))
 let q3:=(vi ((d.a.n5:Nat):Int))
 let q1:=(zf (zC za za) (zf q6 (zf q6 (zf q5 (zf q3 (ci i (zf (zl za 1 (d.a.r5 (zk i)).n1 λj=>ci ((d.a.r5 (zk i)).3 j).f0 zh) (ci (((d.a.r5 (zk i)).n1:Nat):Int) (zf q6 zh)))))))))
 let q2:=(Q7 d (d.a.r5 (zk i)).n1 (λj=>((d.a.r5 (zk i)).3 j)) (d.a.r5 (zk i)).n1)
 let q4:=(zl za 2 d.a.n5 λjj=>Zu za (d.a.r5 jj))
 zu (((0:Int)<=i/\i<((d.a.n5:Nat):Int))/\(d.a.r5 (zk i)).n1<=(1000:Nat)/\zf (zQ za 0 0 0 0) q1=zf (zQ za 0 0 0 0) q1/\ci d.a.f0 q0=ci d.a.f0 q0/\(zA=zA/\YD .i64 (λx=>(d.2 (Zd x),vi (d.3 (Zd x)))) λk=>(d.2 (Zd k),vi (d.3 (Zd k))))/\(zA=zA/\YD .i64 (λx=>(d.4 (Zd x),vi (d.5 (Zd x)))) λk=>(d.4 (Zd k),vi (d.5 (Zd k))))/\(zA=zA/\YD .i64 (λx=>(d.6 (Zd x),vi (d.7 (Zd x)))) λk=>(d.6 (Zd k),vi (d.7 (Zd k))))/\True) (zB (bif bif bif decide (zR q2>(0:Int))then decide (zx q2>(0:Int))else za then ze else za then ze else za) (zw (Ex.ret,ze,zf (pt 0) (zf (zC ze za) (zf q4 (zf q3 (ci i zh)))),[zN (Yu d.a),mO d,mN d,mH d])) (zw (Ex.normal,ze,zf (pt 0) (zf (zC ze za) (zf q4 (zf q3 (ci (zD .i64 (i+(1:Int))) zh)))),[zN (Yu d.a),mO d,mN d,mH d])))
theorem pl3_round(d:Ze):Yi P (Zl P [JH] [pl4_in d] ze) 40 17 4 4 146 [0,2,108,109,110] [(0,.own),(1,.own),(2,.own),(3,.own)] [] (ZdE d) (ZdF d) (λi=>(bif decide (i<((d.a.n5:Nat):Int))then za else ze)) (.exit 4) (pl3_R d):=λB i z=>by kernel_rfl
def Zab(d:Ze)(k:Nat):Bool:=(pl3_R d k ()).early
abbrev pl3_ets(d:Ze)(i:Int)(z:Unit):V:=(.cons (zQ ze 0 0 0 0) (.cons (zC ze za) (.cons (zl za 2 d.a.n5 λjj=>Zu za (d.a.r5 jj)) (.cons (zn za .i64 ((d.a.n5:Nat):Int)) (.cons .junk .nil)))))
def ZgI(d:Ze):Lp:=lpL 40 17 4 4 146 [0,2,108,109,110] [(0,.own),(1,.own),(2,.own),(3,.own)] [] (ZdE d) (ZdF d) (.exit 4) .ret () (λ_=>()) (Zab d) (Za.n5 (Ze.a d)) (pl3_ets d) (ZdF d)
def pl3_need(d:Ze):Prop:=YC 4 [] (ZdE d) (ZdF d) () (ZdE d (0:Nat) ()) (ZdF d (0:Nat) ())
theorem pl3_fit(d:Ze):pl3_need d:=⟨rfl,⟨rfl,⟨rfl,λ_=>⟨rfl,rfl⟩⟩,⟨rfl,λ_=>⟨rfl,rfl⟩⟩,⟨rfl,λ_=>⟨rfl,rfl⟩⟩,trivial⟩⟩
theorem pl3_lp_ok(d:Ze)(hl:d.a.n5<=1000)(hMA:∀j,(d.a.r5 j).n1<=1000)(hO:∀j:Int,d.oh j=ze->0<=d.og j/\d.og j<d.a.n6):(ZgI d).Ok P:=by
 refine YR (Zw hm hn (l:=[JH]) ⟨Zct,trivial⟩ (ls:=[pl4_in d]) ⟨pl4_in_ok d hO,trivial⟩ ze) rfl (by kernel_rfl) (pl3_round d) exN Yv (λ_=>rfl) (step:=λ_ z=>z) (rd:=(λ_ t y=>())) (λi z=>rfl) (λi=>rfl) rfl (λi hlt hg=>?_) (λi z hi=>?_)
 ·have hltI:(i:Int)<(((Za.n5 (Ze.a d)):Nat):Int):=by omega
  refine⟨?_,⟨λhb0=>trivial,λhb0=>trivial⟩⟩
  all_goals(repeat'(first|exact rfl|exact λ_=>⟨rfl,rfl⟩|apply zy|intro _))
  all_goals(try simp only[decide_eq_true_eq,decide_eq_false_iff_not,yg,yw]at*)
  all_goals(try simp(disch:=omega) only[IntWalk.i64_in])
  all_goals(first|omega|exact hMA _)
 ·have hw:=(IntWalk.i64_in ((i:Int)+1) ⟨by omega,by omega⟩)
  refine⟨?_,?_⟩
  all_goals(first|exact⟨rfl,Yq (ts:=ZdE d) (a:=()) hw rfl,Z5 _⟩|exact⟨rfl,rfl,(by repeat'(first|exact Le.refl _|exact Le.junk _ rfl|apply Le.cons)),Z5 _⟩)
def vPlaced_T(d:Ze):Tree (V×List Blk):=
 let q12:=(zl za 2 d.a.n5 λj=>Zu za (d.a.r5 j))
 let q13:=(zl za 11 d.a.n6 λj=>Zy za (d.a.r6 j))
 let q11:=(zl za 2 d.a.n12 λj=>ZB za (d.a.r12 j))
 let q0:=(zf (zl za 2 d.a.n1 λj=>Z9 za (d.a.r1 j)) (zf (zl za 1 d.a.n2 λj=>zf (zn za .u32 (d.a.r2 j).f0) zh) (zf (zl za 4 d.a.n3 λj=>Zv za (d.a.r3 j)) (zf (zl za 4 d.a.n4 λj=>Zt za (d.a.r4 j)) (zf q12 (zf q13 (zf (zl za 2 d.a.n7 λj=>Z0 za (d.a.r7 j)) (zf (zl za 5 d.a.n8 λj=>ZP za (d.a.r8 j)) (ci d.a.f9 (zf (zl za 2 d.a.n10 λj=>ZC za (d.a.r10 j)) (zf (zl za 3 d.a.n11 λj=>ZF za (d.a.r11 j)) (zf q11 (zf (zn za .u64 d.a.f13) (zf (zZ 1) (zf (zZ 2) (zf (zZ 3) zh))))))))))))))))
 let q1:=[zN (Yu d.a),Blk.Zk (MK.int .i64) za (λk=>(d.2 (Zd k),vi (d.3 (Zd k)))) zm,Blk.Zk (MK.int .i64) za (λk=>(d.4 (Zd k),vi (d.5 (Zd k)))) zm,Blk.Zk (MK.int .i64) za (λk=>(d.6 (Zd k),vi (d.7 (Zd k)))) zm]
 let q2:=(zA=zA/\YD .i64 (λx=>(d.2 (Zd x),vi (d.3 (Zd x)))) λk=>(d.2 (Zd k),vi (d.3 (Zd k))))
 let q3:=(zA=zA/\YD .i64 (λx=>(d.4 (Zd x),vi (d.5 (Zd x)))) λk=>(d.4 (Zd k),vi (d.5 (Zd k))))
 let q4:=(zA=zA/\YD .i64 (λx=>(d.6 (Zd x),vi (d.7 (Zd x)))) λk=>(d.6 (Zd k),vi (d.7 (Zd k))))
 let q9:=(ci (0:Int) zh)
 let q5:=(zf (zC za za) (ci (-1:Int) (zf q11 (ci ((d.a.n12:Nat):Int) q9))))
 let q6:=(zf (zC za za) (zf q13 (ci ((d.a.n6:Nat):Int) q9)))
 let q7:=(zf (zC za za) (zf q12 (ci ((d.a.n5:Nat):Int) q9)))
 let q8:=(vi d.a.f0)
 let q10:=(zw (zC ze za,q1))
 zu (zf (zQ za 0 0 0 0) q5=zf (zQ za 0 0 0 0) q5/\zf q8 q0=zf q8 q0/\q2/\q3/\q4/\True) (zB (bif Zp (J3 d) d.a.n12 then ze else za) q10 (zu (zf (zQ za 0 0 0 0) q6=zf (zQ za 0 0 0 0) q6/\zf q8 q0=zf q8 q0/\q2/\q3/\q4/\True) (zB (bif Zp (Zaa d) d.a.n6 then ze else za) q10 (zu (zf (zQ za 0 0 0 0) q7=zf (zQ za 0 0 0 0) q7/\zf q8 q0=zf q8 q0/\q2/\q3/\q4/\True) (zB (bif Zp (Zab d) d.a.n5 then ze else za) q10 (zw (zC ze ze,q1)))))))
theorem ZrT(d:Ze):evH (Zl P [JH,Zaw,X8] [ZgG d,ZgH d,ZgI d] ze) 400 40 (.cons (.ptr ze 0 0 0 0) .nil) (Yt d)=vPlaced_T d:=by kernel_rfl
def Zai(d:Ze):Bool:=
  (bif bif Zp (J3 d) d.a.n12 then ze else za then(za)else(bif bif Zp (Zaa d) d.a.n6 then ze else za then(za)else(bif bif Zp (Zab d)
  d.a.n5 then ze else za then(za)else(ze))))
theorem ZrR(d:Ze)(h0:d.a.n3<=1000)(h1:d.a.n4<=1000)(h2:d.a.n5<=1000)(h3:d.a.n6<=1000)(h4:d.a.n12<=1000)(h5:∀j,(d.a.r5 j).n1<=1000)(h6:∀j:Int,d.oh j=ze->0<=d.og j/\d.og j<d.a.n6)(h7:d.a.n6=d.a.n4)(h8:0<d.a.n4->∀j:Int,0<=(bif d.hh j then d.hg j else 0)/\(bif d.hh j then d.hg j else 0)<d.a.n3)(h9:0<d.a.n4->∀j:Int,0<=(d.a.r3 (bif d.hh j then d.hg j else 0).toNat).f3/\(d.a.r3 (bif d.hh j then d.hg j else 0).toNat).f3<d.a.n2)(h10:d.a.n7=d.a.n3):YG P 40 (.cons (.ptr ze 0 0 0 0) .nil) (Yt d) (.leaf (.bool za (Zai d),Yt d)):=by
 refine GH (E:=(Zl P [JH,Zaw,X8] [ZgG d,ZgH d,ZgI d] ze)) (Zw hm hn (l:=[JH,Zaw,X8]) ⟨Zct,ZjZ,Ve,trivial⟩ (ls:=[ZgG d,ZgH d,ZgI d]) ⟨pl1_lp_ok d h4 h6 h7 h0 h1 h8 h9 h10,pl2_lp_ok d h3,pl3_lp_ok d h2 h5 h6,trivial⟩ ze) (ZrT d) ((cC rfl (cC rfl (cC rfl rfl)))) ⟨⟨rfl,rfl⟩,⟨⟨rfl,rfl⟩,⟨⟨rfl,rfl⟩,⟨rfl,rfl⟩⟩⟩⟩ ?_
 refine⟨?_,⟨λhb0=>trivial,λhb0=>⟨?_,⟨λhb1=>trivial,λhb1=>⟨?_,⟨λhb2=>trivial,λhb2=>trivial⟩⟩⟩⟩⟩⟩
 all_goals((repeat'(first|exact pl1_fit d|exact pl2_fit d|exact pl3_fit d|exact rfl|exact λ_=>⟨rfl,rfl⟩|apply zy|intro _));all_goals(try simp only[decide_eq_true_eq,decide_eq_false_iff_not]at*);all_goals(first|omega|exact pl1_fit d|exact pl2_fit d|exact pl3_fit d))
def ZbQ:HK:=λargs bl=>match args,bl with
 |(.cons (.ptr ze 0 0 0 0) .nil),[.var c,.Zk (.int .i64) _ fo _,.Zk (.int .i64) _ fn _,.Zk (.int .i64) _ fh _]=>zi (c.QV λc=>.need (UD c fo fn fh/\(λ(d:Ze)=>d.a.n3<=1000/\d.a.n4<=1000/\d.a.n5<=1000/\d.a.n6<=1000/\d.a.n12<=1000/\(∀j,(d.a.r5 j).n1<=1000)/\(∀j:Int,d.oh j=ze->0<=d.og j/\d.og j<d.a.n6)/\d.a.n6=d.a.n4/\(0<d.a.n4->∀j:Int,0<=(bif d.hh j then d.hg j else 0)/\(bif d.hh j then d.hg j else 0)<d.a.n3)/\(0<d.a.n4->∀j:Int,0<=(d.a.r3 (bif d.hh j then d.hg j else 0).toNat).f3/\(d.a.r3 (bif d.hh j then d.hg j else 0).toNat).f3<d.a.n2)/\d.a.n7=d.a.n3) (Xr c fo fn fh)) (.leaf (.bool za (Zai (Xr c fo fn fh)),Yt (Xr c fo fn fh))))
 |_,_=>zm
theorem ZrS:Xo P 40 ZbQ:=by
 intro args bl T hT
 unfold ZbQ at hT
 split at hT
 ·rename_i c q1 fo q2 q3 fn q4 q5 fh q6
  injection hT with hT
  subst hT
  intro base mm F w xs Q KK h1 h2 hq hk
  simp only[V.Jp]at hq
  obtain⟨hp,hq⟩:=hq
  exact YG.le (bl:=[.var c,.Zk (.int .i64) q1 fo q2,.Zk (.int .i64) q3 fn q4,.Zk (.int .i64) q5 fh q6]) (ZrR (Xr c fo fn fh) hp.2.1 hp.2.2.1 hp.2.2.2.1 hp.2.2.2.2.1 hp.2.2.2.2.2.1 hp.2.2.2.2.2.2.1 hp.2.2.2.2.2.2.2.1 hp.2.2.2.2.2.2.2.2.1 hp.2.2.2.2.2.2.2.2.2.1 hp.2.2.2.2.2.2.2.2.2.2.1 hp.2.2.2.2.2.2.2.2.2.2.2) rfl (λb=>Zak hp.1 b) base mm F w xs Q KK h1 h2 hq hk
 ·cases hT
abbrev chkHk:List Hc:=[⟨34,Zbk⟩,⟨35,ZbP⟩,⟨36,ZbN⟩,⟨37,ZbO⟩,⟨38,ZbM⟩,⟨39,ZbR⟩,⟨40,ZbQ⟩]
abbrev chkE:Env:={ (Zl P [] [] ze)with hk:=Ww chkHk }
def kT(K:HK)(args:V)(bl:List Blk):Tree (V×List Blk):=(K args bl).getD .stuck
def chkM(K:HK)(d:Ze)(r:Bool)(next:Tree V):Tree V:=(kT K (.cons (.ptr ze 0 0 0 0) .nil) (Yt d)).bind λ_=>.node (bif bif !r then ze else za then ze else za) (.leaf (.int ze .i64 300)) next
theorem chk_tree(a:Za):ZT chkE 400 9 (.cons (.agg (Z7 za a)) .nil)=
  (kT Zbk (.cons (.agg (Z7 za a)) .nil) []).bind λ_=>
   chkM ZbP (Zg a) (VT (Zg a)) (chkM ZbN (Zg a) (UA (Zg a)) (chkM ZbO (Zg a) (UC (Zg a)) (chkM ZbM (Zg a) (Zah (Zg a)) (chkM ZbR (Zg a) (K5 (Zg a)) (chkM ZbQ (Zg a) (Zai (Zg a)) (.leaf (.int ze .i64 0))))))):=by kernel_rfl
theorem Zh3(n:Nat)(r:Nat->Z6)(b:Int):0<=Vn n r b/\Vn n r b<=n/\(U9 n r b=ze->Vn n r b<n):=by
 have h:Qi n r b<=n:=Zcp _ _ _ (Nat.zero_le _)
 have e:Vn n r b=(Qi n r b:Int):=by
  unfold Vn;cases decide (((Qi n r b:Nat):Int)<(n:Int))<;>rfl
 rw[e]
 refine⟨by omega,by omega,λh1=>?_⟩
 unfold U9 at h1
 cases hc:decide (((Qi n r b:Nat):Int)<(n:Int))with
 |true=>exact of_decide_eq_true hc
 |false=>rw[hc]at h1;cases h1
variable{c d:Bool}
theorem orF(h:(bif c then ze else d)=za):c=za/\d=za:=by cases c;exact⟨rfl,h⟩;cases h
theorem Y4(h:(bif c then d else za)=ze):c=ze/\d=ze:=by cases c;cases h;exact⟨rfl,h⟩
theorem zF{x y:Int}(hx:x≠0)(h:(bif c then x else y)=0):c=za/\y=0:=by cases c;exact⟨rfl,h⟩;exact absurd h hx
theorem nT(h:(!c)=za):c=ze:=by cases c;cases h;rfl
theorem dc1_pool(a:Zf)(k:Nat)(h:Zfr a k=za):0<=(a.r0 k).f3:=by
 have h1:=(orF (nf4 (nf4 (nf4 h)))).1
 have h2:=(Y4 (Y4 (Y4 (Y4 (Y4 (Y4 (Y4 (nT h1)).2).2).2).2).2).2).1
 exact of_decide_eq_true h2
theorem Zli(d:Ze)(k:Nat)(h:Jr d k=za):(d.a.r3 k).f3<d.a.n2:=by
 have h1:=of_decide_eq_false (orF h).1
 have h2:¬(d.a.r3 k).f3>=(d.a.n2:Int):=h1
 omega
theorem Zkr{a:Zf}(h:Wy a=0):∀j,j<a.n0->0<=(a.r0 j).f3:=λj hj=>
 dc1_pool a j (Y7 (nf4 (zF (by decide) (zF (by decide) h).2).1) j hj)
theorem Ziw{a:Zc}(h:YH a=0):∀j,j<a.n0->QX (a.r0 j).n1 (a.r0 j).r1=ze:=λj hj=>by
 have h1:=Y7 (nf4 (zF (by decide) h).1) j hj
 exact nT (orF (orF (nf4 (orF h1).1)).2).2
theorem eqT{x y:Int}(h:(x==y)=ze):x=y:=by simpa using h
theorem fT(h:(bif c then za else d)=ze):c=za/\d=ze:=by cases c;exact⟨rfl,h⟩;cases h
theorem Zk5{n:Nat}{r:Nat->DT3}(h:QX n r=ze):0<n/\n<=8:=by
 have h1:=Y4 (fT h).2
 have h2:(n:Int)>=2:=of_decide_eq_true h1.1
 have h3:(n:Int)<=8:=of_decide_eq_true h1.2
 omega
theorem ec1_ge(a:YE):∀k:Nat,0<=ZaW a k:=by
 intro k
 induction k with
 |zero=>exact Int.le_refl _
 |succ k ih=>
  show 0<=ZkA a k (ZaW a k)
  generalize ZaW a k=z at ih⊢
  have e:∀c:Bool,(c=za->z<(a.r0 k).f0)->0<=(bif c then z else(a.r0 k).f0):=λc hc=>by
   cases c
   ·have:=hc rfl;show 0<=(a.r0 k).f0;omega
   ·exact ih
  refine e _ λh=>?_
  have h1:=of_decide_eq_false (orF (nf4 (nf4 h))).1
  have h2:¬(a.r0 k).f0<=z:=h1
  omega
theorem ZoY{a:YE}(h:Gd a=0):∀j,j<a.n0->1<=(a.r0 j).f0/\(a.r0 j).f0<=32:=λj hj=>by
 have h1:=Y7 (nf4 (zF (by decide) h).1) j hj
 have h2:=orF (nf4 (nf4 (nf4 h1)))
 have h3:¬(a.r0 j).f0<=ZaW a j:=of_decide_eq_false h2.1
 have h4:¬(a.r0 j).f0>32:=of_decide_eq_false (orF h2.2).1
 have h5:=ec1_ge a j
 omega
theorem ZoK{a:Zf}(h:Wy a=0)(h1:0<a.n1):0<a.n0:=by
 have h2:=Y7 (nf4 (zF (by decide) (zF (by decide) (zF (by decide) h).2).2).1) 0 h1
 have h3:=(orF (orF (orF (nf4 (nf4 (nf4 h2)))).2).2).2
 have h4:=(Zh3 a.n0 (λj=>XQ (Zv za (a.r0 j))) (a.r1 0).f1).2.2 (nT h3)
 have h5:=(Zh3 a.n0 (λj=>XQ (Zv za (a.r0 j))) (a.r1 0).f1).1
 omega
theorem Zl3{d:Ze}(h:UC d=ze):d.a.n6=d.a.n4:=by
 have:=nf5 (fT h).1
 omega
theorem ZiB{d:Ze}(h:UA d=ze):d.a.n7=d.a.n3/\∀j,j<d.a.n3->(d.a.r3 j).f3<d.a.n2:=by
 have h1:=fT h
 have h2:=nf3 h1.1
 exact⟨by omega,λj hj=>Zli d j (Y7 (nf4 (fT h1.2).1) j hj)⟩
theorem Zdz{d:Ze}(h:VT d=ze):Wy ⟨d.a.n3,d.a.r3,d.a.n4,d.a.r4⟩=0/\YH ⟨d.a.n5,d.a.r5⟩=0/\Gd ⟨d.a.n8,d.a.r8⟩=0:=by
 have h1:=Y4 h
 have h2:=Y4 h1.2
 exact⟨eqT (Y4 (Y4 (Y4 h1.1).2).2).2,eqT h2.1,eqT (Y4 h2.2).1⟩
end Go.Proofs.YthhbdbeglmkijaaGreatDoor
end
