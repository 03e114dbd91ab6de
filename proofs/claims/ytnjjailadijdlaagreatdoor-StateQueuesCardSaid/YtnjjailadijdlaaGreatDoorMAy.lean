/- gang.matching: its contract, of rows that are laid one by one. -/
import Derived.Test.YtnjjailadijdlaaGreatDoorMAw
import Derived.Test.YtnjjailadijdlaaGreatDoorMAx
import Derived.Test.YtnjjailadijdlaaGreatDoorMAv
import Derived.Test.YtnjjailadijdlaaGreatDoorMAo
import Derived.Test.YtnjjailadijdlaaGreatDoorMAs
set_option maxRecDepth 100000
set_option linter.unusedVariables false
set_option linter.unusedSimpArgs false
noncomputable section
namespace Go.Proofs.YtnjjailadijdlaaGreatDoor
open Go.Fw
def rowOk (d:Zd):Prop:=d.n0<=1000/\∀ k,k < d.n0->0<=(d.r0 k).f0/\(d.r0 k).f0 < 8
theorem Ka (c:Nat):rowOk ⟨Xr c,fun j=>Xl c j⟩:=⟨by show Xr c<=1000; have:=lst_le c; omega,fun k _=>lst_lt c k⟩
theorem Ko {F:Nat->Prop} {w:World} {N:Nat} {m:Nat->Option Nat} {st:Bool} {es n:Nat} {g g':Nat->V} {xs:List Value} (h:∀ j,j < n->(g j).soft = (g' j).soft) (hx:RL F w (.cons (.rsl st es n g) .nil) N m xs):RL F w (.cons (.rsl false es n g') .nil) N m xs:=by
 simp only [RL,R] at hx ⊢
 obtain ⟨x,r,rfl,⟨a,cap,rfl,hc,hr⟩,hn⟩:=hx
 refine ⟨_,r,rfl,⟨a,cap,rfl,hc,?_⟩,hn⟩
 rcases hr with hr | ⟨B,off,e1,e2,c,el,fr,k1,k2⟩
 ·exact .inl hr
 ·refine .inr ⟨B,off,e1,e2,c,el,fr,k1,fun j hj=>?_⟩
  obtain ⟨ys,hy,hl⟩:=k2 j hj
  have e:=((Y7 (g j) _ _).2 _).2 hy
  rw [h j hj] at e
  exact ⟨ys,((Y7 (g' j) _ _).2 _).1 e,hl⟩
def Y2 (LN:Int->Nat) (LI:Int->Nat->DT3):Con:=Yf 300 (fun x=>.cons (.int false .u32 x.hd.toInt) .nil) (fun x=>.rsl false 1 (LN x.hd.toInt) fun j=>Ym false (LI x.hd.toInt j)) (fun x=>0<=x.hd.toInt/\x.hd.toInt < 256)
theorem KE:(Y2 (fun s=>Xr s.toNat) (fun s=>Xl s.toNat)).Ok P:=c_lst_ok
theorem Yd {s:Int} (h:0<=s/\s < 4294967296) (hb:(bif IntKind.wrap IntKind.u32 ((BitVec.toNat (BitVec.ofInt (IntKind.bits IntKind.u32) s &&& ~~~BitVec.ofInt (IntKind.bits IntKind.u32) (255:Int)):Nat):Int) != (0:Int) then true else false) = false):0<=s/\s < 256:=by
 obtain ⟨n,rfl⟩:=Int.eq_ofNat_of_zero_le h.1
 have hn:n < 4294967296:=by omega
 have hb':=nf5 hb
 generalize hx:BitVec.toNat (BitVec.ofInt (IntKind.bits IntKind.u32) (n:Int) &&& ~~~BitVec.ofInt (IntKind.bits IntKind.u32) (255:Int)) = x at hb'
 have hx2:x < 4294967296:=by rw [<- hx]; exact BitVec.isLt _
 rw [IntWalk.u32_in (x:Int) ⟨by omega,by omega⟩] at hb'
 have h0:x = 0:=by omega
 rw [h0] at hx
 rw [BitVec.toNat_and] at hx
 have e1:(BitVec.ofInt (IntKind.bits IntKind.u32) (n:Int)).toNat = n:=by
  show (BitVec.ofInt 32 (n:Int)).toNat = n
  rw [BitVec.toNat_ofInt]; omega
 have e2:(~~~BitVec.ofInt (IntKind.bits IntKind.u32) (255:Int)).toNat = 4294967040:=rfl
 rw [e1,e2] at hx
 have h1:=congrArg (· >>> 8) hx
 simp only [Nat.shiftRight_and_distrib] at h1
 have e3:4294967040 >>> 8 = 2 ^ 24 - 1:=by decide
 rw [e3,Nat.and_two_pow_sub_one_eq_mod,Nat.shiftRight_eq_div_pow] at h1
 have e4:(0:Nat) >>> 8 = 0:=by decide
 rw [e4] at h1
 have:n / 2 ^ 8 < 2 ^ 24:=by omega
 rw [Nat.mod_eq_of_lt this] at h1
 refine ⟨by omega,?_⟩
 have:n < 256:=by
  have h3:=Nat.div_eq_zero_iff.1 h1
  omega
 omega
abbrev Zy (v:V):Zd:=⟨v.hd.ZC,fun k=>⟨(v.hd.ZH k).hd.toInt⟩⟩
def Yz (v:V):Prop:=v.soft = QW false (Zy v)/\rowOk (Zy v)
def c_gm1 (GM:Zd->Bool):Con:={ g:=253,al:=true,ans:=fun x=>match x with
 | .cons (.rsl _ 1 n get) .nil=>bif Nat.beq n 1 then some (.where_ (Yz (get 0)) (.bool false (GM (Zy (get 0))))) else none
 | _=>none }
def row1 (e0:Zd):Nat->Zd:=fun j=>match j with
 | 0=>e0
 | _=>e0
theorem c_gm1_ok:(c_gm1 fun e0=>Xf 1 (row1 e0)).Ok P:=by
 intro x
 dsimp only [c_gm1]
 split
 ·rename_i v h
  split at h
  ·rename_i n get
   cases hb:Nat.beq n 1 <;> rw [hb] at h <;> cases h
  ·cases h
 ·rename_i p v h
  split at h
  ·rename_i n get
   cases hb:Nat.beq n 1 with
   | false=>rw [hb] at h; cases h
   | true=>
    rw [hb] at h
    injection h with h
    injection h with h1 h2
    subst h1; subst h2
    obtain rfl:=Nat.eq_of_beq_eq_true hb
    intro hp
    refine Zi.args (Vf 1 (row1 (Zy (get 0))) (by omega) (fun j hj=>?_)) fun F w n' m xs hx=>Ko (fun j hj=>?_) hx
    ·match j,hj with
     | 0,_=>exact (hp).2
    ·match j,hj with
     | 0,_=>exact (hp).1
  ·cases h
 ·rename_i h
  split at h
  ·rename_i n get
   cases hb:Nat.beq n 1 <;> rw [hb] at h <;> cases h
  ·cases h
 ·trivial
def c_gm2 (GM:Zd->Zd->Bool):Con:={ g:=253,al:=true,ans:=fun x=>match x with
 | .cons (.rsl _ 1 n get) .nil=>bif Nat.beq n 2 then some (.where_ (Yz (get 0)/\Yz (get 1)) (.bool false (GM (Zy (get 0)) (Zy (get 1))))) else none
 | _=>none }
def QN (e0:Zd) (e1:Zd):Nat->Zd:=fun j=>match j with
 | 0=>e0
 | 1=>e1
 | _=>e0
theorem c_gm2_ok:(c_gm2 fun e0 e1=>Xf 2 (QN e0 e1)).Ok P:=by
 intro x
 dsimp only [c_gm2]
 split
 ·rename_i v h
  split at h
  ·rename_i n get
   cases hb:Nat.beq n 2 <;> rw [hb] at h <;> cases h
  ·cases h
 ·rename_i p v h
  split at h
  ·rename_i n get
   cases hb:Nat.beq n 2 with
   | false=>rw [hb] at h; cases h
   | true=>
    rw [hb] at h
    injection h with h
    injection h with h1 h2
    subst h1; subst h2
    obtain rfl:=Nat.eq_of_beq_eq_true hb
    intro hp
    refine Zi.args (Vf 2 (QN (Zy (get 0)) (Zy (get 1))) (by omega) (fun j hj=>?_)) fun F w n' m xs hx=>Ko (fun j hj=>?_) hx
    ·match j,hj with
     | 0,_=>exact (hp.1).2
     | 1,_=>exact (hp.2).2
    ·match j,hj with
     | 0,_=>exact (hp.1).1
     | 1,_=>exact (hp.2).1
  ·cases h
 ·rename_i h
  split at h
  ·rename_i n get
   cases hb:Nat.beq n 2 <;> rw [hb] at h <;> cases h
  ·cases h
 ·trivial
def c_gm3 (GM:Zd->Zd->Zd->Bool):Con:={ g:=253,al:=true,ans:=fun x=>match x with
 | .cons (.rsl _ 1 n get) .nil=>bif Nat.beq n 3 then some (.where_ (Yz (get 0)/\Yz (get 1)/\Yz (get 2)) (.bool false (GM (Zy (get 0)) (Zy (get 1)) (Zy (get 2))))) else none
 | _=>none }
def row3 (e0:Zd) (e1:Zd) (e2:Zd):Nat->Zd:=fun j=>match j with
 | 0=>e0
 | 1=>e1
 | 2=>e2
 | _=>e0
theorem c_gm3_ok:(c_gm3 fun e0 e1 e2=>Xf 3 (row3 e0 e1 e2)).Ok P:=by
 intro x
 dsimp only [c_gm3]
 split
 ·rename_i v h
  split at h
  ·rename_i n get
   cases hb:Nat.beq n 3 <;> rw [hb] at h <;> cases h
  ·cases h
 ·rename_i p v h
  split at h
  ·rename_i n get
   cases hb:Nat.beq n 3 with
   | false=>rw [hb] at h; cases h
   | true=>
    rw [hb] at h
    injection h with h
    injection h with h1 h2
    subst h1; subst h2
    obtain rfl:=Nat.eq_of_beq_eq_true hb
    intro hp
    refine Zi.args (Vf 3 (row3 (Zy (get 0)) (Zy (get 1)) (Zy (get 2))) (by omega) (fun j hj=>?_)) fun F w n' m xs hx=>Ko (fun j hj=>?_) hx
    ·match j,hj with
     | 0,_=>exact (hp.1).2
     | 1,_=>exact (hp.2.1).2
     | 2,_=>exact (hp.2.2).2
    ·match j,hj with
     | 0,_=>exact (hp.1).1
     | 1,_=>exact (hp.2.1).1
     | 2,_=>exact (hp.2.2).1
  ·cases h
 ·rename_i h
  split at h
  ·rename_i n get
   cases hb:Nat.beq n 3 <;> rw [hb] at h <;> cases h
  ·cases h
 ·trivial
def c_gm4 (GM:Zd->Zd->Zd->Zd->Bool):Con:={ g:=253,al:=true,ans:=fun x=>match x with
 | .cons (.rsl _ 1 n get) .nil=>bif Nat.beq n 4 then some (.where_ (Yz (get 0)/\Yz (get 1)/\Yz (get 2)/\Yz (get 3)) (.bool false (GM (Zy (get 0)) (Zy (get 1)) (Zy (get 2)) (Zy (get 3))))) else none
 | _=>none }
def row4 (e0:Zd) (e1:Zd) (e2:Zd) (e3:Zd):Nat->Zd:=fun j=>match j with
 | 0=>e0
 | 1=>e1
 | 2=>e2
 | 3=>e3
 | _=>e0
theorem c_gm4_ok:(c_gm4 fun e0 e1 e2 e3=>Xf 4 (row4 e0 e1 e2 e3)).Ok P:=by
 intro x
 dsimp only [c_gm4]
 split
 ·rename_i v h
  split at h
  ·rename_i n get
   cases hb:Nat.beq n 4 <;> rw [hb] at h <;> cases h
  ·cases h
 ·rename_i p v h
  split at h
  ·rename_i n get
   cases hb:Nat.beq n 4 with
   | false=>rw [hb] at h; cases h
   | true=>
    rw [hb] at h
    injection h with h
    injection h with h1 h2
    subst h1; subst h2
    obtain rfl:=Nat.eq_of_beq_eq_true hb
    intro hp
    refine Zi.args (Vf 4 (row4 (Zy (get 0)) (Zy (get 1)) (Zy (get 2)) (Zy (get 3))) (by omega) (fun j hj=>?_)) fun F w n' m xs hx=>Ko (fun j hj=>?_) hx
    ·match j,hj with
     | 0,_=>exact (hp.1).2
     | 1,_=>exact (hp.2.1).2
     | 2,_=>exact (hp.2.2.1).2
     | 3,_=>exact (hp.2.2.2).2
    ·match j,hj with
     | 0,_=>exact (hp.1).1
     | 1,_=>exact (hp.2.1).1
     | 2,_=>exact (hp.2.2.1).1
     | 3,_=>exact (hp.2.2.2).1
  ·cases h
 ·rename_i h
  split at h
  ·rename_i n get
   cases hb:Nat.beq n 4 <;> rw [hb] at h <;> cases h
  ·cases h
 ·trivial
def c_gm5 (GM:Zd->Zd->Zd->Zd->Zd->Bool):Con:={ g:=253,al:=true,ans:=fun x=>match x with
 | .cons (.rsl _ 1 n get) .nil=>bif Nat.beq n 5 then some (.where_ (Yz (get 0)/\Yz (get 1)/\Yz (get 2)/\Yz (get 3)/\Yz (get 4)) (.bool false (GM (Zy (get 0)) (Zy (get 1)) (Zy (get 2)) (Zy (get 3)) (Zy (get 4))))) else none
 | _=>none }
def row5 (e0:Zd) (e1:Zd) (e2:Zd) (e3:Zd) (e4:Zd):Nat->Zd:=fun j=>match j with
 | 0=>e0
 | 1=>e1
 | 2=>e2
 | 3=>e3
 | 4=>e4
 | _=>e0
theorem c_gm5_ok:(c_gm5 fun e0 e1 e2 e3 e4=>Xf 5 (row5 e0 e1 e2 e3 e4)).Ok P:=by
 intro x
 dsimp only [c_gm5]
 split
 ·rename_i v h
  split at h
  ·rename_i n get
   cases hb:Nat.beq n 5 <;> rw [hb] at h <;> cases h
  ·cases h
 ·rename_i p v h
  split at h
  ·rename_i n get
   cases hb:Nat.beq n 5 with
   | false=>rw [hb] at h; cases h
   | true=>
    rw [hb] at h
    injection h with h
    injection h with h1 h2
    subst h1; subst h2
    obtain rfl:=Nat.eq_of_beq_eq_true hb
    intro hp
    refine Zi.args (Vf 5 (row5 (Zy (get 0)) (Zy (get 1)) (Zy (get 2)) (Zy (get 3)) (Zy (get 4))) (by omega) (fun j hj=>?_)) fun F w n' m xs hx=>Ko (fun j hj=>?_) hx
    ·match j,hj with
     | 0,_=>exact (hp.1).2
     | 1,_=>exact (hp.2.1).2
     | 2,_=>exact (hp.2.2.1).2
     | 3,_=>exact (hp.2.2.2.1).2
     | 4,_=>exact (hp.2.2.2.2).2
    ·match j,hj with
     | 0,_=>exact (hp.1).1
     | 1,_=>exact (hp.2.1).1
     | 2,_=>exact (hp.2.2.1).1
     | 3,_=>exact (hp.2.2.2.1).1
     | 4,_=>exact (hp.2.2.2.2).1
  ·cases h
 ·rename_i h
  split at h
  ·rename_i n get
   cases hb:Nat.beq n 5 <;> rw [hb] at h <;> cases h
  ·cases h
 ·trivial
def c_gm6 (GM:Zd->Zd->Zd->Zd->Zd->Zd->Bool):Con:={ g:=253,al:=true,ans:=fun x=>match x with
 | .cons (.rsl _ 1 n get) .nil=>bif Nat.beq n 6 then some (.where_ (Yz (get 0)/\Yz (get 1)/\Yz (get 2)/\Yz (get 3)/\Yz (get 4)/\Yz (get 5)) (.bool false (GM (Zy (get 0)) (Zy (get 1)) (Zy (get 2)) (Zy (get 3)) (Zy (get 4)) (Zy (get 5))))) else none
 | _=>none }
def row6 (e0:Zd) (e1:Zd) (e2:Zd) (e3:Zd) (e4:Zd) (e5:Zd):Nat->Zd:=fun j=>match j with
 | 0=>e0
 | 1=>e1
 | 2=>e2
 | 3=>e3
 | 4=>e4
 | 5=>e5
 | _=>e0
theorem c_gm6_ok:(c_gm6 fun e0 e1 e2 e3 e4 e5=>Xf 6 (row6 e0 e1 e2 e3 e4 e5)).Ok P:=by
 intro x
 dsimp only [c_gm6]
 split
 ·rename_i v h
  split at h
  ·rename_i n get
   cases hb:Nat.beq n 6 <;> rw [hb] at h <;> cases h
  ·cases h
 ·rename_i p v h
  split at h
  ·rename_i n get
   cases hb:Nat.beq n 6 with
   | false=>rw [hb] at h; cases h
   | true=>
    rw [hb] at h
    injection h with h
    injection h with h1 h2
    subst h1; subst h2
    obtain rfl:=Nat.eq_of_beq_eq_true hb
    intro hp
    refine Zi.args (Vf 6 (row6 (Zy (get 0)) (Zy (get 1)) (Zy (get 2)) (Zy (get 3)) (Zy (get 4)) (Zy (get 5))) (by omega) (fun j hj=>?_)) fun F w n' m xs hx=>Ko (fun j hj=>?_) hx
    ·match j,hj with
     | 0,_=>exact (hp.1).2
     | 1,_=>exact (hp.2.1).2
     | 2,_=>exact (hp.2.2.1).2
     | 3,_=>exact (hp.2.2.2.1).2
     | 4,_=>exact (hp.2.2.2.2.1).2
     | 5,_=>exact (hp.2.2.2.2.2).2
    ·match j,hj with
     | 0,_=>exact (hp.1).1
     | 1,_=>exact (hp.2.1).1
     | 2,_=>exact (hp.2.2.1).1
     | 3,_=>exact (hp.2.2.2.1).1
     | 4,_=>exact (hp.2.2.2.2.1).1
     | 5,_=>exact (hp.2.2.2.2.2).1
  ·cases h
 ·rename_i h
  split at h
  ·rename_i n get
   cases hb:Nat.beq n 6 <;> rw [hb] at h <;> cases h
  ·cases h
 ·trivial
def c_gm7 (GM:Zd->Zd->Zd->Zd->Zd->Zd->Zd->Bool):Con:={ g:=253,al:=true,ans:=fun x=>match x with
 | .cons (.rsl _ 1 n get) .nil=>bif Nat.beq n 7 then some (.where_ (Yz (get 0)/\Yz (get 1)/\Yz (get 2)/\Yz (get 3)/\Yz (get 4)/\Yz (get 5)/\Yz (get 6)) (.bool false (GM (Zy (get 0)) (Zy (get 1)) (Zy (get 2)) (Zy (get 3)) (Zy (get 4)) (Zy (get 5)) (Zy (get 6))))) else none
 | _=>none }
def row7 (e0:Zd) (e1:Zd) (e2:Zd) (e3:Zd) (e4:Zd) (e5:Zd) (e6:Zd):Nat->Zd:=fun j=>match j with
 | 0=>e0
 | 1=>e1
 | 2=>e2
 | 3=>e3
 | 4=>e4
 | 5=>e5
 | 6=>e6
 | _=>e0
theorem c_gm7_ok:(c_gm7 fun e0 e1 e2 e3 e4 e5 e6=>Xf 7 (row7 e0 e1 e2 e3 e4 e5 e6)).Ok P:=by
 intro x
 dsimp only [c_gm7]
 split
 ·rename_i v h
  split at h
  ·rename_i n get
   cases hb:Nat.beq n 7 <;> rw [hb] at h <;> cases h
  ·cases h
 ·rename_i p v h
  split at h
  ·rename_i n get
   cases hb:Nat.beq n 7 with
   | false=>rw [hb] at h; cases h
   | true=>
    rw [hb] at h
    injection h with h
    injection h with h1 h2
    subst h1; subst h2
    obtain rfl:=Nat.eq_of_beq_eq_true hb
    intro hp
    refine Zi.args (Vf 7 (row7 (Zy (get 0)) (Zy (get 1)) (Zy (get 2)) (Zy (get 3)) (Zy (get 4)) (Zy (get 5)) (Zy (get 6))) (by omega) (fun j hj=>?_)) fun F w n' m xs hx=>Ko (fun j hj=>?_) hx
    ·match j,hj with
     | 0,_=>exact (hp.1).2
     | 1,_=>exact (hp.2.1).2
     | 2,_=>exact (hp.2.2.1).2
     | 3,_=>exact (hp.2.2.2.1).2
     | 4,_=>exact (hp.2.2.2.2.1).2
     | 5,_=>exact (hp.2.2.2.2.2.1).2
     | 6,_=>exact (hp.2.2.2.2.2.2).2
    ·match j,hj with
     | 0,_=>exact (hp.1).1
     | 1,_=>exact (hp.2.1).1
     | 2,_=>exact (hp.2.2.1).1
     | 3,_=>exact (hp.2.2.2.1).1
     | 4,_=>exact (hp.2.2.2.2.1).1
     | 5,_=>exact (hp.2.2.2.2.2.1).1
     | 6,_=>exact (hp.2.2.2.2.2.2).1
  ·cases h
 ·rename_i h
  split at h
  ·rename_i n get
   cases hb:Nat.beq n 7 <;> rw [hb] at h <;> cases h
  ·cases h
 ·trivial
def c_gm8 (GM:Zd->Zd->Zd->Zd->Zd->Zd->Zd->Zd->Bool):Con:={ g:=253,al:=true,ans:=fun x=>match x with
 | .cons (.rsl _ 1 n get) .nil=>bif Nat.beq n 8 then some (.where_ (Yz (get 0)/\Yz (get 1)/\Yz (get 2)/\Yz (get 3)/\Yz (get 4)/\Yz (get 5)/\Yz (get 6)/\Yz (get 7)) (.bool false (GM (Zy (get 0)) (Zy (get 1)) (Zy (get 2)) (Zy (get 3)) (Zy (get 4)) (Zy (get 5)) (Zy (get 6)) (Zy (get 7))))) else none
 | _=>none }
def row8 (e0:Zd) (e1:Zd) (e2:Zd) (e3:Zd) (e4:Zd) (e5:Zd) (e6:Zd) (e7:Zd):Nat->Zd:=fun j=>match j with
 | 0=>e0
 | 1=>e1
 | 2=>e2
 | 3=>e3
 | 4=>e4
 | 5=>e5
 | 6=>e6
 | 7=>e7
 | _=>e0
theorem c_gm8_ok:(c_gm8 fun e0 e1 e2 e3 e4 e5 e6 e7=>Xf 8 (row8 e0 e1 e2 e3 e4 e5 e6 e7)).Ok P:=by
 intro x
 dsimp only [c_gm8]
 split
 ·rename_i v h
  split at h
  ·rename_i n get
   cases hb:Nat.beq n 8 <;> rw [hb] at h <;> cases h
  ·cases h
 ·rename_i p v h
  split at h
  ·rename_i n get
   cases hb:Nat.beq n 8 with
   | false=>rw [hb] at h; cases h
   | true=>
    rw [hb] at h
    injection h with h
    injection h with h1 h2
    subst h1; subst h2
    obtain rfl:=Nat.eq_of_beq_eq_true hb
    intro hp
    refine Zi.args (Vf 8 (row8 (Zy (get 0)) (Zy (get 1)) (Zy (get 2)) (Zy (get 3)) (Zy (get 4)) (Zy (get 5)) (Zy (get 6)) (Zy (get 7))) (by omega) (fun j hj=>?_)) fun F w n' m xs hx=>Ko (fun j hj=>?_) hx
    ·match j,hj with
     | 0,_=>exact (hp.1).2
     | 1,_=>exact (hp.2.1).2
     | 2,_=>exact (hp.2.2.1).2
     | 3,_=>exact (hp.2.2.2.1).2
     | 4,_=>exact (hp.2.2.2.2.1).2
     | 5,_=>exact (hp.2.2.2.2.2.1).2
     | 6,_=>exact (hp.2.2.2.2.2.2.1).2
     | 7,_=>exact (hp.2.2.2.2.2.2.2).2
    ·match j,hj with
     | 0,_=>exact (hp.1).1
     | 1,_=>exact (hp.2.1).1
     | 2,_=>exact (hp.2.2.1).1
     | 3,_=>exact (hp.2.2.2.1).1
     | 4,_=>exact (hp.2.2.2.2.1).1
     | 5,_=>exact (hp.2.2.2.2.2.1).1
     | 6,_=>exact (hp.2.2.2.2.2.2.1).1
     | 7,_=>exact (hp.2.2.2.2.2.2.2).1
  ·cases h
 ·rename_i h
  split at h
  ·rename_i n get
   cases hb:Nat.beq n 8 <;> rw [hb] at h <;> cases h
  ·cases h
 ·trivial
def Yx (x:Int):Bool:=bif IntKind.wrap IntKind.u32 ((BitVec.toNat (BitVec.ofInt (IntKind.bits IntKind.u32) x &&& ~~~BitVec.ofInt (IntKind.bits IntKind.u32) (255:Int)):Nat):Int) != (0:Int) then true else false
def lsR (LN:Int->Nat) (LI:Int->Nat->DT3) (x:Int):Zd:=Zd.mk (LN x) fun k=>DT3.mk (DT3.f0 (LI x k))
def lsV (LN:Int->Nat) (LI:Int->Nat->DT3) (x:Int):V:=V.rsl false 1 (LN x) fun j=>V.cons (V.int false .i64 (DT3.f0 (LI x j))) V.nil
def may0_T (LN:Int->Nat) (LI:Int->Nat->DT3) (a:Nat->Zw):Tree V:=
 Tree.leaf (V.bool true true)
theorem may0_tree (LN:Int->Nat) (LI:Int->Nat->DT3) (a:Nat->Zw):ZQ (Zo P [Y2 LN LI] [252,166]) 400 166 (.cons (.rsl true 1 0 fun j=>ZW true (a j)) .nil) = may0_T LN LI a:=by kernel_rfl
def may0_r (LN:Int->Nat) (LI:Int->Nat->DT3) (a:Nat->Zw):Bool:=(may0_T LN LI a).join.toBool
theorem may0_gen (LN:Int->Nat) (LI:Int->Nat->DT3) (a:Nat->Zw) (hL:(Y2 LN LI).Ok P) (hR:∀ s,rowOk ⟨LN s,fun k=>LI s k⟩) (hs:∀ j,j < 0->0<=(a j).f0/\(a j).f0 < 4294967296):Zi P 166 (.cons (.rsl true 1 0 fun j=>ZW true (a j)) .nil) (.bool false (may0_r LN LI a)):=
 YI (Yh hm hn (l:=[Y2 LN LI]) ⟨hL,trivial⟩) 400 (Has.of hn Tryz.func166 rfl) (may0_tree LN LI a) (Tree.Pre.mk True.intro) (by kernel_rfl) (by kernel_rfl)
def may0 (a:Nat->Zw):Bool:=may0_r (fun s=>Xr s.toNat) (fun s=>Xl s.toNat) a
theorem ZjX (a:Nat->Zw) (hs:∀ j,j < 0->0<=(a j).f0/\(a j).f0 < 4294967296):Zi P 166 (.cons (.rsl true 1 0 fun j=>ZW true (a j)) .nil) (.bool false (may0 a)):=may0_gen (fun s=>Xr s.toNat) (fun s=>Xl s.toNat) a KE (fun s=>Ka _) hs
def may1_T (LN:Int->Nat) (LI:Int->Nat->DT3) (GM:Zd->Bool) (a:Nat->Zw):Tree V:=
 Tree.node (Yx (a 0).f0) (Tree.leaf (V.bool true false)) (Tree.need (V.cons (V.int false .u32 (a 0).f0) V.nil = V.cons (V.int false .u32 (a 0).f0) V.nil/\(0:Int)<=(a (0)).f0/\(a (0)).f0 < (256:Int)) (Tree.need (V.cons (lsV LN LI (a 0).f0) V.nil = V.cons (lsV LN LI (a 0).f0) V.nil/\rowOk (lsR LN LI (a 0).f0)) (Tree.leaf (V.bool false (GM (lsR LN LI (a 0).f0))))))
theorem may1_tree (LN:Int->Nat) (LI:Int->Nat->DT3) (GM:Zd->Bool) (a:Nat->Zw):ZQ (Zo P [Y2 LN LI,c_gm1 GM] [252,166]) 400 166 (.cons (.rsl true 1 1 fun j=>ZW true (a j)) .nil) = may1_T LN LI GM a:=by kernel_rfl
def may1_r (LN:Int->Nat) (LI:Int->Nat->DT3) (GM:Zd->Bool) (a:Nat->Zw):Bool:=(may1_T LN LI GM a).join.toBool
theorem may1_gen (LN:Int->Nat) (LI:Int->Nat->DT3) (GM:Zd->Bool) (a:Nat->Zw) (hL:(Y2 LN LI).Ok P) (hG:(c_gm1 GM).Ok P) (hR:∀ s,rowOk ⟨LN s,fun k=>LI s k⟩) (hs:∀ j,j < 1->0<=(a j).f0/\(a j).f0 < 4294967296):Zi P 166 (.cons (.rsl true 1 1 fun j=>ZW true (a j)) .nil) (.bool false (may1_r LN LI GM a)):=
 YI (Yh hm hn (l:=[Y2 LN LI,c_gm1 GM]) ⟨hL,hG,trivial⟩) 400 (Has.of hn Tryz.func166 rfl) (may1_tree LN LI GM a) (Tree.Pre.mk (And.intro (fun _=>True.intro) (fun hb0=>(And.intro (by first | exact ⟨rfl,Yd (hs 0 (by omega)) hb0⟩ | exact ⟨rfl,hR _⟩) (And.intro (by first | exact ⟨rfl,Yd (hs 0 (by omega)) hb0⟩ | exact ⟨rfl,hR _⟩) True.intro))))) (by kernel_rfl) (by kernel_rfl)
def may1 (a:Nat->Zw):Bool:=may1_r (fun s=>Xr s.toNat) (fun s=>Xl s.toNat) (fun e0=>Xf 1 (row1 e0)) a
theorem ZkR (a:Nat->Zw) (hs:∀ j,j < 1->0<=(a j).f0/\(a j).f0 < 4294967296):Zi P 166 (.cons (.rsl true 1 1 fun j=>ZW true (a j)) .nil) (.bool false (may1 a)):=may1_gen (fun s=>Xr s.toNat) (fun s=>Xl s.toNat) (fun e0=>Xf 1 (row1 e0)) a KE c_gm1_ok (fun s=>Ka _) hs
def may2_T (LN:Int->Nat) (LI:Int->Nat->DT3) (GM:Zd->Zd->Bool) (a:Nat->Zw):Tree V:=
 Tree.node (Yx (a 0).f0) (Tree.leaf (V.bool true false)) (Tree.need (V.cons (V.int false .u32 (a 0).f0) V.nil = V.cons (V.int false .u32 (a 0).f0) V.nil/\(0:Int)<=(a (0)).f0/\(a (0)).f0 < (256:Int)) (Tree.node (Yx (a 1).f0) (Tree.leaf (V.bool true false)) (Tree.need (V.cons (V.int false .u32 (a 1).f0) V.nil = V.cons (V.int false .u32 (a 1).f0) V.nil/\(0:Int)<=(a (0 + (1:Nat))).f0/\(a (0 + (1:Nat))).f0 < (256:Int)) (Tree.need ((V.cons (lsV LN LI (a 0).f0) V.nil = V.cons (lsV LN LI (a 0).f0) V.nil/\rowOk (lsR LN LI (a 0).f0))/\V.cons (lsV LN LI (a 1).f0) V.nil = V.cons (lsV LN LI (a 1).f0) V.nil/\rowOk (lsR LN LI (a 1).f0)) (Tree.leaf (V.bool false (GM (lsR LN LI (a 0).f0) (lsR LN LI (a 1).f0))))))))
theorem may2_tree (LN:Int->Nat) (LI:Int->Nat->DT3) (GM:Zd->Zd->Bool) (a:Nat->Zw):ZQ (Zo P [Y2 LN LI,c_gm2 GM] [252,166]) 400 166 (.cons (.rsl true 1 2 fun j=>ZW true (a j)) .nil) = may2_T LN LI GM a:=by kernel_rfl
def may2_r (LN:Int->Nat) (LI:Int->Nat->DT3) (GM:Zd->Zd->Bool) (a:Nat->Zw):Bool:=(may2_T LN LI GM a).join.toBool
theorem may2_gen (LN:Int->Nat) (LI:Int->Nat->DT3) (GM:Zd->Zd->Bool) (a:Nat->Zw) (hL:(Y2 LN LI).Ok P) (hG:(c_gm2 GM).Ok P) (hR:∀ s,rowOk ⟨LN s,fun k=>LI s k⟩) (hs:∀ j,j < 2->0<=(a j).f0/\(a j).f0 < 4294967296):Zi P 166 (.cons (.rsl true 1 2 fun j=>ZW true (a j)) .nil) (.bool false (may2_r LN LI GM a)):=
 YI (Yh hm hn (l:=[Y2 LN LI,c_gm2 GM]) ⟨hL,hG,trivial⟩) 400 (Has.of hn Tryz.func166 rfl) (may2_tree LN LI GM a) (Tree.Pre.mk (And.intro (fun _=>True.intro) (fun hb0=>(And.intro (by first | exact ⟨rfl,Yd (hs 0 (by omega)) hb0⟩ | exact ⟨⟨rfl,hR _⟩,⟨rfl,hR _⟩⟩) (And.intro (fun _=>True.intro) (fun hb1=>(And.intro (by first | exact ⟨rfl,Yd (hs 1 (by omega)) hb1⟩ | exact ⟨⟨rfl,hR _⟩,⟨rfl,hR _⟩⟩) (And.intro (by first | exact ⟨rfl,Yd (hs 1 (by omega)) hb1⟩ | exact ⟨⟨rfl,hR _⟩,⟨rfl,hR _⟩⟩) True.intro)))))))) (by kernel_rfl) (by kernel_rfl)
def may2 (a:Nat->Zw):Bool:=may2_r (fun s=>Xr s.toNat) (fun s=>Xl s.toNat) (fun e0 e1=>Xf 2 (QN e0 e1)) a
theorem Zmx (a:Nat->Zw) (hs:∀ j,j < 2->0<=(a j).f0/\(a j).f0 < 4294967296):Zi P 166 (.cons (.rsl true 1 2 fun j=>ZW true (a j)) .nil) (.bool false (may2 a)):=may2_gen (fun s=>Xr s.toNat) (fun s=>Xl s.toNat) (fun e0 e1=>Xf 2 (QN e0 e1)) a KE c_gm2_ok (fun s=>Ka _) hs
def may3_T (LN:Int->Nat) (LI:Int->Nat->DT3) (GM:Zd->Zd->Zd->Bool) (a:Nat->Zw):Tree V:=
 let q0:=(Tree.leaf (V.bool true false))
 Tree.node (Yx (a 0).f0) q0 (Tree.need (V.cons (V.int false .u32 (a 0).f0) V.nil = V.cons (V.int false .u32 (a 0).f0) V.nil/\(0:Int)<=(a (0)).f0/\(a (0)).f0 < (256:Int)) (Tree.node (Yx (a 1).f0) q0 (Tree.need (V.cons (V.int false .u32 (a 1).f0) V.nil = V.cons (V.int false .u32 (a 1).f0) V.nil/\(0:Int)<=(a (0 + (1:Nat))).f0/\(a (0 + (1:Nat))).f0 < (256:Int)) (Tree.node (Yx (a 2).f0) q0 (Tree.need (V.cons (V.int false .u32 (a 2).f0) V.nil = V.cons (V.int false .u32 (a 2).f0) V.nil/\(0:Int)<=(a (1 + (1:Nat))).f0/\(a (1 + (1:Nat))).f0 < (256:Int)) (Tree.need ((V.cons (lsV LN LI (a 0).f0) V.nil = V.cons (lsV LN LI (a 0).f0) V.nil/\rowOk (lsR LN LI (a 0).f0))/\(V.cons (lsV LN LI (a 1).f0) V.nil = V.cons (lsV LN LI (a 1).f0) V.nil/\rowOk (lsR LN LI (a 1).f0))/\V.cons (lsV LN LI (a 2).f0) V.nil = V.cons (lsV LN LI (a 2).f0) V.nil/\rowOk (lsR LN LI (a 2).f0)) (Tree.leaf (V.bool false (GM (lsR LN LI (a 0).f0) (lsR LN LI (a 1).f0) (lsR LN LI (a 2).f0))))))))))
theorem may3_tree (LN:Int->Nat) (LI:Int->Nat->DT3) (GM:Zd->Zd->Zd->Bool) (a:Nat->Zw):ZQ (Zo P [Y2 LN LI,c_gm3 GM] [252,166]) 400 166 (.cons (.rsl true 1 3 fun j=>ZW true (a j)) .nil) = may3_T LN LI GM a:=by kernel_rfl
def may3_r (LN:Int->Nat) (LI:Int->Nat->DT3) (GM:Zd->Zd->Zd->Bool) (a:Nat->Zw):Bool:=(may3_T LN LI GM a).join.toBool
theorem may3_gen (LN:Int->Nat) (LI:Int->Nat->DT3) (GM:Zd->Zd->Zd->Bool) (a:Nat->Zw) (hL:(Y2 LN LI).Ok P) (hG:(c_gm3 GM).Ok P) (hR:∀ s,rowOk ⟨LN s,fun k=>LI s k⟩) (hs:∀ j,j < 3->0<=(a j).f0/\(a j).f0 < 4294967296):Zi P 166 (.cons (.rsl true 1 3 fun j=>ZW true (a j)) .nil) (.bool false (may3_r LN LI GM a)):=
 YI (Yh hm hn (l:=[Y2 LN LI,c_gm3 GM]) ⟨hL,hG,trivial⟩) 400 (Has.of hn Tryz.func166 rfl) (may3_tree LN LI GM a) (Tree.Pre.mk (And.intro (fun _=>True.intro) (fun hb0=>(And.intro (by first | exact ⟨rfl,Yd (hs 0 (by omega)) hb0⟩ | exact ⟨⟨rfl,hR _⟩,⟨rfl,hR _⟩,⟨rfl,hR _⟩⟩) (And.intro (fun _=>True.intro) (fun hb1=>(And.intro (by first | exact ⟨rfl,Yd (hs 1 (by omega)) hb1⟩ | exact ⟨⟨rfl,hR _⟩,⟨rfl,hR _⟩,⟨rfl,hR _⟩⟩) (And.intro (fun _=>True.intro) (fun hb2=>(And.intro (by first | exact ⟨rfl,Yd (hs 2 (by omega)) hb2⟩ | exact ⟨⟨rfl,hR _⟩,⟨rfl,hR _⟩,⟨rfl,hR _⟩⟩) (And.intro (by first | exact ⟨rfl,Yd (hs 2 (by omega)) hb2⟩ | exact ⟨⟨rfl,hR _⟩,⟨rfl,hR _⟩,⟨rfl,hR _⟩⟩) True.intro))))))))))) (by kernel_rfl) (by kernel_rfl)
def may3 (a:Nat->Zw):Bool:=may3_r (fun s=>Xr s.toNat) (fun s=>Xl s.toNat) (fun e0 e1 e2=>Xf 3 (row3 e0 e1 e2)) a
theorem ZjF (a:Nat->Zw) (hs:∀ j,j < 3->0<=(a j).f0/\(a j).f0 < 4294967296):Zi P 166 (.cons (.rsl true 1 3 fun j=>ZW true (a j)) .nil) (.bool false (may3 a)):=may3_gen (fun s=>Xr s.toNat) (fun s=>Xl s.toNat) (fun e0 e1 e2=>Xf 3 (row3 e0 e1 e2)) a KE c_gm3_ok (fun s=>Ka _) hs
def may4_T (LN:Int->Nat) (LI:Int->Nat->DT3) (GM:Zd->Zd->Zd->Zd->Bool) (a:Nat->Zw):Tree V:=
 let q0:=(Tree.leaf (V.bool true false))
 Tree.node (Yx (a 0).f0) q0 (Tree.need (V.cons (V.int false .u32 (a 0).f0) V.nil = V.cons (V.int false .u32 (a 0).f0) V.nil/\(0:Int)<=(a (0)).f0/\(a (0)).f0 < (256:Int)) (Tree.node (Yx (a 1).f0) q0 (Tree.need (V.cons (V.int false .u32 (a 1).f0) V.nil = V.cons (V.int false .u32 (a 1).f0) V.nil/\(0:Int)<=(a (0 + (1:Nat))).f0/\(a (0 + (1:Nat))).f0 < (256:Int)) (Tree.node (Yx (a 2).f0) q0 (Tree.need (V.cons (V.int false .u32 (a 2).f0) V.nil = V.cons (V.int false .u32 (a 2).f0) V.nil/\(0:Int)<=(a (1 + (1:Nat))).f0/\(a (1 + (1:Nat))).f0 < (256:Int)) (Tree.node (Yx (a 3).f0) q0 (Tree.need (V.cons (V.int false .u32 (a 3).f0) V.nil = V.cons (V.int false .u32 (a 3).f0) V.nil/\(0:Int)<=(a (2 + (1:Nat))).f0/\(a (2 + (1:Nat))).f0 < (256:Int)) (Tree.need ((V.cons (lsV LN LI (a 0).f0) V.nil = V.cons (lsV LN LI (a 0).f0) V.nil/\rowOk (lsR LN LI (a 0).f0))/\(V.cons (lsV LN LI (a 1).f0) V.nil = V.cons (lsV LN LI (a 1).f0) V.nil/\rowOk (lsR LN LI (a 1).f0))/\(V.cons (lsV LN LI (a 2).f0) V.nil = V.cons (lsV LN LI (a 2).f0) V.nil/\rowOk (lsR LN LI (a 2).f0))/\V.cons (lsV LN LI (a 3).f0) V.nil = V.cons (lsV LN LI (a 3).f0) V.nil/\rowOk (lsR LN LI (a 3).f0)) (Tree.leaf (V.bool false (GM (lsR LN LI (a 0).f0) (lsR LN LI (a 1).f0) (lsR LN LI (a 2).f0) (lsR LN LI (a 3).f0))))))))))))
theorem may4_tree (LN:Int->Nat) (LI:Int->Nat->DT3) (GM:Zd->Zd->Zd->Zd->Bool) (a:Nat->Zw):ZQ (Zo P [Y2 LN LI,c_gm4 GM] [252,166]) 400 166 (.cons (.rsl true 1 4 fun j=>ZW true (a j)) .nil) = may4_T LN LI GM a:=by kernel_rfl
def may4_r (LN:Int->Nat) (LI:Int->Nat->DT3) (GM:Zd->Zd->Zd->Zd->Bool) (a:Nat->Zw):Bool:=(may4_T LN LI GM a).join.toBool
theorem may4_gen (LN:Int->Nat) (LI:Int->Nat->DT3) (GM:Zd->Zd->Zd->Zd->Bool) (a:Nat->Zw) (hL:(Y2 LN LI).Ok P) (hG:(c_gm4 GM).Ok P) (hR:∀ s,rowOk ⟨LN s,fun k=>LI s k⟩) (hs:∀ j,j < 4->0<=(a j).f0/\(a j).f0 < 4294967296):Zi P 166 (.cons (.rsl true 1 4 fun j=>ZW true (a j)) .nil) (.bool false (may4_r LN LI GM a)):=
 YI (Yh hm hn (l:=[Y2 LN LI,c_gm4 GM]) ⟨hL,hG,trivial⟩) 400 (Has.of hn Tryz.func166 rfl) (may4_tree LN LI GM a) (Tree.Pre.mk (And.intro (fun _=>True.intro) (fun hb0=>(And.intro (by first | exact ⟨rfl,Yd (hs 0 (by omega)) hb0⟩ | exact ⟨⟨rfl,hR _⟩,⟨rfl,hR _⟩,⟨rfl,hR _⟩,⟨rfl,hR _⟩⟩) (And.intro (fun _=>True.intro) (fun hb1=>(And.intro (by first | exact ⟨rfl,Yd (hs 1 (by omega)) hb1⟩ | exact ⟨⟨rfl,hR _⟩,⟨rfl,hR _⟩,⟨rfl,hR _⟩,⟨rfl,hR _⟩⟩) (And.intro (fun _=>True.intro) (fun hb2=>(And.intro (by first | exact ⟨rfl,Yd (hs 2 (by omega)) hb2⟩ | exact ⟨⟨rfl,hR _⟩,⟨rfl,hR _⟩,⟨rfl,hR _⟩,⟨rfl,hR _⟩⟩) (And.intro (fun _=>True.intro) (fun hb3=>(And.intro (by first | exact ⟨rfl,Yd (hs 3 (by omega)) hb3⟩ | exact ⟨⟨rfl,hR _⟩,⟨rfl,hR _⟩,⟨rfl,hR _⟩,⟨rfl,hR _⟩⟩) (And.intro (by first | exact ⟨rfl,Yd (hs 3 (by omega)) hb3⟩ | exact ⟨⟨rfl,hR _⟩,⟨rfl,hR _⟩,⟨rfl,hR _⟩,⟨rfl,hR _⟩⟩) True.intro)))))))))))))) (by kernel_rfl) (by kernel_rfl)
def may4 (a:Nat->Zw):Bool:=may4_r (fun s=>Xr s.toNat) (fun s=>Xl s.toNat) (fun e0 e1 e2 e3=>Xf 4 (row4 e0 e1 e2 e3)) a
theorem ZkD (a:Nat->Zw) (hs:∀ j,j < 4->0<=(a j).f0/\(a j).f0 < 4294967296):Zi P 166 (.cons (.rsl true 1 4 fun j=>ZW true (a j)) .nil) (.bool false (may4 a)):=may4_gen (fun s=>Xr s.toNat) (fun s=>Xl s.toNat) (fun e0 e1 e2 e3=>Xf 4 (row4 e0 e1 e2 e3)) a KE c_gm4_ok (fun s=>Ka _) hs
def may5_T (LN:Int->Nat) (LI:Int->Nat->DT3) (GM:Zd->Zd->Zd->Zd->Zd->Bool) (a:Nat->Zw):Tree V:=
 let q0:=(Tree.leaf (V.bool true false))
 Tree.node (Yx (a 0).f0) q0 (Tree.need (V.cons (V.int false .u32 (a 0).f0) V.nil = V.cons (V.int false .u32 (a 0).f0) V.nil/\(0:Int)<=(a (0)).f0/\(a (0)).f0 < (256:Int)) (Tree.node (Yx (a 1).f0) q0 (Tree.need (V.cons (V.int false .u32 (a 1).f0) V.nil = V.cons (V.int false .u32 (a 1).f0) V.nil/\(0:Int)<=(a (0 + (1:Nat))).f0/\(a (0 + (1:Nat))).f0 < (256:Int)) (Tree.node (Yx (a 2).f0) q0 (Tree.need (V.cons (V.int false .u32 (a 2).f0) V.nil = V.cons (V.int false .u32 (a 2).f0) V.nil/\(0:Int)<=(a (1 + (1:Nat))).f0/\(a (1 + (1:Nat))).f0 < (256:Int)) (Tree.node (Yx (a 3).f0) q0 (Tree.need (V.cons (V.int false .u32 (a 3).f0) V.nil = V.cons (V.int false .u32 (a 3).f0) V.nil/\(0:Int)<=(a (2 + (1:Nat))).f0/\(a (2 + (1:Nat))).f0 < (256:Int)) (Tree.node (Yx (a 4).f0) q0 (Tree.need (V.cons (V.int false .u32 (a 4).f0) V.nil = V.cons (V.int false .u32 (a 4).f0) V.nil/\(0:Int)<=(a (3 + (1:Nat))).f0/\(a (3 + (1:Nat))).f0 < (256:Int)) (Tree.need ((V.cons (lsV LN LI (a 0).f0) V.nil = V.cons (lsV LN LI (a 0).f0) V.nil/\rowOk (lsR LN LI (a 0).f0))/\(V.cons (lsV LN LI (a 1).f0) V.nil = V.cons (lsV LN LI (a 1).f0) V.nil/\rowOk (lsR LN LI (a 1).f0))/\(V.cons (lsV LN LI (a 2).f0) V.nil = V.cons (lsV LN LI (a 2).f0) V.nil/\rowOk (lsR LN LI (a 2).f0))/\(V.cons (lsV LN LI (a 3).f0) V.nil = V.cons (lsV LN LI (a 3).f0) V.nil/\rowOk (lsR LN LI (a 3).f0))/\V.cons (lsV LN LI (a 4).f0) V.nil = V.cons (lsV LN LI (a 4).f0) V.nil/\rowOk (lsR LN LI (a 4).f0)) (Tree.leaf (V.bool false (GM (lsR LN LI (a 0).f0) (lsR LN LI (a 1).f0) (lsR LN LI (a 2).f0) (lsR LN LI (a 3).f0) (lsR LN LI (a 4).f0))))))))))))))
theorem may5_tree (LN:Int->Nat) (LI:Int->Nat->DT3) (GM:Zd->Zd->Zd->Zd->Zd->Bool) (a:Nat->Zw):ZQ (Zo P [Y2 LN LI,c_gm5 GM] [252,166]) 400 166 (.cons (.rsl true 1 5 fun j=>ZW true (a j)) .nil) = may5_T LN LI GM a:=by kernel_rfl
def may5_r (LN:Int->Nat) (LI:Int->Nat->DT3) (GM:Zd->Zd->Zd->Zd->Zd->Bool) (a:Nat->Zw):Bool:=(may5_T LN LI GM a).join.toBool
theorem may5_gen (LN:Int->Nat) (LI:Int->Nat->DT3) (GM:Zd->Zd->Zd->Zd->Zd->Bool) (a:Nat->Zw) (hL:(Y2 LN LI).Ok P) (hG:(c_gm5 GM).Ok P) (hR:∀ s,rowOk ⟨LN s,fun k=>LI s k⟩) (hs:∀ j,j < 5->0<=(a j).f0/\(a j).f0 < 4294967296):Zi P 166 (.cons (.rsl true 1 5 fun j=>ZW true (a j)) .nil) (.bool false (may5_r LN LI GM a)):=
 YI (Yh hm hn (l:=[Y2 LN LI,c_gm5 GM]) ⟨hL,hG,trivial⟩) 400 (Has.of hn Tryz.func166 rfl) (may5_tree LN LI GM a) (Tree.Pre.mk (And.intro (fun _=>True.intro) (fun hb0=>(And.intro (by first | exact ⟨rfl,Yd (hs 0 (by omega)) hb0⟩ | exact ⟨⟨rfl,hR _⟩,⟨rfl,hR _⟩,⟨rfl,hR _⟩,⟨rfl,hR _⟩,⟨rfl,hR _⟩⟩) (And.intro (fun _=>True.intro) (fun hb1=>(And.intro (by first | exact ⟨rfl,Yd (hs 1 (by omega)) hb1⟩ | exact ⟨⟨rfl,hR _⟩,⟨rfl,hR _⟩,⟨rfl,hR _⟩,⟨rfl,hR _⟩,⟨rfl,hR _⟩⟩) (And.intro (fun _=>True.intro) (fun hb2=>(And.intro (by first | exact ⟨rfl,Yd (hs 2 (by omega)) hb2⟩ | exact ⟨⟨rfl,hR _⟩,⟨rfl,hR _⟩,⟨rfl,hR _⟩,⟨rfl,hR _⟩,⟨rfl,hR _⟩⟩) (And.intro (fun _=>True.intro) (fun hb3=>(And.intro (by first | exact ⟨rfl,Yd (hs 3 (by omega)) hb3⟩ | exact ⟨⟨rfl,hR _⟩,⟨rfl,hR _⟩,⟨rfl,hR _⟩,⟨rfl,hR _⟩,⟨rfl,hR _⟩⟩) (And.intro (fun _=>True.intro) (fun hb4=>(And.intro (by first | exact ⟨rfl,Yd (hs 4 (by omega)) hb4⟩ | exact ⟨⟨rfl,hR _⟩,⟨rfl,hR _⟩,⟨rfl,hR _⟩,⟨rfl,hR _⟩,⟨rfl,hR _⟩⟩) (And.intro (by first | exact ⟨rfl,Yd (hs 4 (by omega)) hb4⟩ | exact ⟨⟨rfl,hR _⟩,⟨rfl,hR _⟩,⟨rfl,hR _⟩,⟨rfl,hR _⟩,⟨rfl,hR _⟩⟩) True.intro))))))))))))))))) (by kernel_rfl) (by kernel_rfl)
def may5 (a:Nat->Zw):Bool:=may5_r (fun s=>Xr s.toNat) (fun s=>Xl s.toNat) (fun e0 e1 e2 e3 e4=>Xf 5 (row5 e0 e1 e2 e3 e4)) a
theorem Zkc (a:Nat->Zw) (hs:∀ j,j < 5->0<=(a j).f0/\(a j).f0 < 4294967296):Zi P 166 (.cons (.rsl true 1 5 fun j=>ZW true (a j)) .nil) (.bool false (may5 a)):=may5_gen (fun s=>Xr s.toNat) (fun s=>Xl s.toNat) (fun e0 e1 e2 e3 e4=>Xf 5 (row5 e0 e1 e2 e3 e4)) a KE c_gm5_ok (fun s=>Ka _) hs
def may6_T (LN:Int->Nat) (LI:Int->Nat->DT3) (GM:Zd->Zd->Zd->Zd->Zd->Zd->Bool) (a:Nat->Zw):Tree V:=
 let q0:=(Tree.leaf (V.bool true false))
 Tree.node (Yx (a 0).f0) q0 (Tree.need (V.cons (V.int false .u32 (a 0).f0) V.nil = V.cons (V.int false .u32 (a 0).f0) V.nil/\(0:Int)<=(a (0)).f0/\(a (0)).f0 < (256:Int)) (Tree.node (Yx (a 1).f0) q0 (Tree.need (V.cons (V.int false .u32 (a 1).f0) V.nil = V.cons (V.int false .u32 (a 1).f0) V.nil/\(0:Int)<=(a (0 + (1:Nat))).f0/\(a (0 + (1:Nat))).f0 < (256:Int)) (Tree.node (Yx (a 2).f0) q0 (Tree.need (V.cons (V.int false .u32 (a 2).f0) V.nil = V.cons (V.int false .u32 (a 2).f0) V.nil/\(0:Int)<=(a (1 + (1:Nat))).f0/\(a (1 + (1:Nat))).f0 < (256:Int)) (Tree.node (Yx (a 3).f0) q0 (Tree.need (V.cons (V.int false .u32 (a 3).f0) V.nil = V.cons (V.int false .u32 (a 3).f0) V.nil/\(0:Int)<=(a (2 + (1:Nat))).f0/\(a (2 + (1:Nat))).f0 < (256:Int)) (Tree.node (Yx (a 4).f0) q0 (Tree.need (V.cons (V.int false .u32 (a 4).f0) V.nil = V.cons (V.int false .u32 (a 4).f0) V.nil/\(0:Int)<=(a (3 + (1:Nat))).f0/\(a (3 + (1:Nat))).f0 < (256:Int)) (Tree.node (Yx (a 5).f0) q0 (Tree.need (V.cons (V.int false .u32 (a 5).f0) V.nil = V.cons (V.int false .u32 (a 5).f0) V.nil/\(0:Int)<=(a (4 + (1:Nat))).f0/\(a (4 + (1:Nat))).f0 < (256:Int)) (Tree.need ((V.cons (lsV LN LI (a 0).f0) V.nil = V.cons (lsV LN LI (a 0).f0) V.nil/\rowOk (lsR LN LI (a 0).f0))/\(V.cons (lsV LN LI (a 1).f0) V.nil = V.cons (lsV LN LI (a 1).f0) V.nil/\rowOk (lsR LN LI (a 1).f0))/\(V.cons (lsV LN LI (a 2).f0) V.nil = V.cons (lsV LN LI (a 2).f0) V.nil/\rowOk (lsR LN LI (a 2).f0))/\(V.cons (lsV LN LI (a 3).f0) V.nil = V.cons (lsV LN LI (a 3).f0) V.nil/\rowOk (lsR LN LI (a 3).f0))/\(V.cons (lsV LN LI (a 4).f0) V.nil = V.cons (lsV LN LI (a 4).f0) V.nil/\rowOk (lsR LN LI (a 4).f0))/\V.cons (lsV LN LI (a 5).f0) V.nil = V.cons (lsV LN LI (a 5).f0) V.nil/\rowOk (lsR LN LI (a 5).f0)) (Tree.leaf (V.bool false (GM (lsR LN LI (a 0).f0) (lsR LN LI (a 1).f0) (lsR LN LI (a 2).f0) (lsR LN LI (a 3).f0) (lsR LN LI (a 4).f0) (lsR LN LI (a 5).f0))))))))))))))))
theorem may6_tree (LN:Int->Nat) (LI:Int->Nat->DT3) (GM:Zd->Zd->Zd->Zd->Zd->Zd->Bool) (a:Nat->Zw):ZQ (Zo P [Y2 LN LI,c_gm6 GM] [252,166]) 400 166 (.cons (.rsl true 1 6 fun j=>ZW true (a j)) .nil) = may6_T LN LI GM a:=by kernel_rfl
def may6_r (LN:Int->Nat) (LI:Int->Nat->DT3) (GM:Zd->Zd->Zd->Zd->Zd->Zd->Bool) (a:Nat->Zw):Bool:=(may6_T LN LI GM a).join.toBool
theorem may6_gen (LN:Int->Nat) (LI:Int->Nat->DT3) (GM:Zd->Zd->Zd->Zd->Zd->Zd->Bool) (a:Nat->Zw) (hL:(Y2 LN LI).Ok P) (hG:(c_gm6 GM).Ok P) (hR:∀ s,rowOk ⟨LN s,fun k=>LI s k⟩) (hs:∀ j,j < 6->0<=(a j).f0/\(a j).f0 < 4294967296):Zi P 166 (.cons (.rsl true 1 6 fun j=>ZW true (a j)) .nil) (.bool false (may6_r LN LI GM a)):=
 YI (Yh hm hn (l:=[Y2 LN LI,c_gm6 GM]) ⟨hL,hG,trivial⟩) 400 (Has.of hn Tryz.func166 rfl) (may6_tree LN LI GM a) (Tree.Pre.mk (And.intro (fun _=>True.intro) (fun hb0=>(And.intro (by first | exact ⟨rfl,Yd (hs 0 (by omega)) hb0⟩ | exact ⟨⟨rfl,hR _⟩,⟨rfl,hR _⟩,⟨rfl,hR _⟩,⟨rfl,hR _⟩,⟨rfl,hR _⟩,⟨rfl,hR _⟩⟩) (And.intro (fun _=>True.intro) (fun hb1=>(And.intro (by first | exact ⟨rfl,Yd (hs 1 (by omega)) hb1⟩ | exact ⟨⟨rfl,hR _⟩,⟨rfl,hR _⟩,⟨rfl,hR _⟩,⟨rfl,hR _⟩,⟨rfl,hR _⟩,⟨rfl,hR _⟩⟩) (And.intro (fun _=>True.intro) (fun hb2=>(And.intro (by first | exact ⟨rfl,Yd (hs 2 (by omega)) hb2⟩ | exact ⟨⟨rfl,hR _⟩,⟨rfl,hR _⟩,⟨rfl,hR _⟩,⟨rfl,hR _⟩,⟨rfl,hR _⟩,⟨rfl,hR _⟩⟩) (And.intro (fun _=>True.intro) (fun hb3=>(And.intro (by first | exact ⟨rfl,Yd (hs 3 (by omega)) hb3⟩ | exact ⟨⟨rfl,hR _⟩,⟨rfl,hR _⟩,⟨rfl,hR _⟩,⟨rfl,hR _⟩,⟨rfl,hR _⟩,⟨rfl,hR _⟩⟩) (And.intro (fun _=>True.intro) (fun hb4=>(And.intro (by first | exact ⟨rfl,Yd (hs 4 (by omega)) hb4⟩ | exact ⟨⟨rfl,hR _⟩,⟨rfl,hR _⟩,⟨rfl,hR _⟩,⟨rfl,hR _⟩,⟨rfl,hR _⟩,⟨rfl,hR _⟩⟩) (And.intro (fun _=>True.intro) (fun hb5=>(And.intro (by first | exact ⟨rfl,Yd (hs 5 (by omega)) hb5⟩ | exact ⟨⟨rfl,hR _⟩,⟨rfl,hR _⟩,⟨rfl,hR _⟩,⟨rfl,hR _⟩,⟨rfl,hR _⟩,⟨rfl,hR _⟩⟩) (And.intro (by first | exact ⟨rfl,Yd (hs 5 (by omega)) hb5⟩ | exact ⟨⟨rfl,hR _⟩,⟨rfl,hR _⟩,⟨rfl,hR _⟩,⟨rfl,hR _⟩,⟨rfl,hR _⟩,⟨rfl,hR _⟩⟩) True.intro)))))))))))))))))))) (by kernel_rfl) (by kernel_rfl)
def may6 (a:Nat->Zw):Bool:=may6_r (fun s=>Xr s.toNat) (fun s=>Xl s.toNat) (fun e0 e1 e2 e3 e4 e5=>Xf 6 (row6 e0 e1 e2 e3 e4 e5)) a
theorem ZiJ (a:Nat->Zw) (hs:∀ j,j < 6->0<=(a j).f0/\(a j).f0 < 4294967296):Zi P 166 (.cons (.rsl true 1 6 fun j=>ZW true (a j)) .nil) (.bool false (may6 a)):=may6_gen (fun s=>Xr s.toNat) (fun s=>Xl s.toNat) (fun e0 e1 e2 e3 e4 e5=>Xf 6 (row6 e0 e1 e2 e3 e4 e5)) a KE c_gm6_ok (fun s=>Ka _) hs
def may7_T (LN:Int->Nat) (LI:Int->Nat->DT3) (GM:Zd->Zd->Zd->Zd->Zd->Zd->Zd->Bool) (a:Nat->Zw):Tree V:=
 let q0:=(Tree.leaf (V.bool true false))
 Tree.node (Yx (a 0).f0) q0 (Tree.need (V.cons (V.int false .u32 (a 0).f0) V.nil = V.cons (V.int false .u32 (a 0).f0) V.nil/\(0:Int)<=(a (0)).f0/\(a (0)).f0 < (256:Int)) (Tree.node (Yx (a 1).f0) q0 (Tree.need (V.cons (V.int false .u32 (a 1).f0) V.nil = V.cons (V.int false .u32 (a 1).f0) V.nil/\(0:Int)<=(a (0 + (1:Nat))).f0/\(a (0 + (1:Nat))).f0 < (256:Int)) (Tree.node (Yx (a 2).f0) q0 (Tree.need (V.cons (V.int false .u32 (a 2).f0) V.nil = V.cons (V.int false .u32 (a 2).f0) V.nil/\(0:Int)<=(a (1 + (1:Nat))).f0/\(a (1 + (1:Nat))).f0 < (256:Int)) (Tree.node (Yx (a 3).f0) q0 (Tree.need (V.cons (V.int false .u32 (a 3).f0) V.nil = V.cons (V.int false .u32 (a 3).f0) V.nil/\(0:Int)<=(a (2 + (1:Nat))).f0/\(a (2 + (1:Nat))).f0 < (256:Int)) (Tree.node (Yx (a 4).f0) q0 (Tree.need (V.cons (V.int false .u32 (a 4).f0) V.nil = V.cons (V.int false .u32 (a 4).f0) V.nil/\(0:Int)<=(a (3 + (1:Nat))).f0/\(a (3 + (1:Nat))).f0 < (256:Int)) (Tree.node (Yx (a 5).f0) q0 (Tree.need (V.cons (V.int false .u32 (a 5).f0) V.nil = V.cons (V.int false .u32 (a 5).f0) V.nil/\(0:Int)<=(a (4 + (1:Nat))).f0/\(a (4 + (1:Nat))).f0 < (256:Int)) (Tree.node (Yx (a 6).f0) q0 (Tree.need (V.cons (V.int false .u32 (a 6).f0) V.nil = V.cons (V.int false .u32 (a 6).f0) V.nil/\(0:Int)<=(a (5 + (1:Nat))).f0/\(a (5 + (1:Nat))).f0 < (256:Int)) (Tree.need ((V.cons (lsV LN LI (a 0).f0) V.nil = V.cons (lsV LN LI (a 0).f0) V.nil/\rowOk (lsR LN LI (a 0).f0))/\(V.cons (lsV LN LI (a 1).f0) V.nil = V.cons (lsV LN LI (a 1).f0) V.nil/\rowOk (lsR LN LI (a 1).f0))/\(V.cons (lsV LN LI (a 2).f0) V.nil = V.cons (lsV LN LI (a 2).f0) V.nil/\rowOk (lsR LN LI (a 2).f0))/\(V.cons (lsV LN LI (a 3).f0) V.nil = V.cons (lsV LN LI (a 3).f0) V.nil/\rowOk (lsR LN LI (a 3).f0))/\(V.cons (lsV LN LI (a 4).f0) V.nil = V.cons (lsV LN LI (a 4).f0) V.nil/\rowOk (lsR LN LI (a 4).f0))/\(V.cons (lsV LN LI (a 5).f0) V.nil = V.cons (lsV LN LI (a 5).f0) V.nil/\rowOk (lsR LN LI (a 5).f0))/\V.cons (lsV LN LI (a 6).f0) V.nil = V.cons (lsV LN LI (a 6).f0) V.nil/\rowOk (lsR LN LI (a 6).f0)) (Tree.leaf (V.bool false (GM (lsR LN LI (a 0).f0) (lsR LN LI (a 1).f0) (lsR LN LI (a 2).f0) (lsR LN LI (a 3).f0) (lsR LN LI (a 4).f0) (lsR LN LI (a 5).f0) (lsR LN LI (a 6).f0))))))))))))))))))
theorem may7_tree (LN:Int->Nat) (LI:Int->Nat->DT3) (GM:Zd->Zd->Zd->Zd->Zd->Zd->Zd->Bool) (a:Nat->Zw):ZQ (Zo P [Y2 LN LI,c_gm7 GM] [252,166]) 400 166 (.cons (.rsl true 1 7 fun j=>ZW true (a j)) .nil) = may7_T LN LI GM a:=by kernel_rfl
def may7_r (LN:Int->Nat) (LI:Int->Nat->DT3) (GM:Zd->Zd->Zd->Zd->Zd->Zd->Zd->Bool) (a:Nat->Zw):Bool:=(may7_T LN LI GM a).join.toBool
theorem may7_gen (LN:Int->Nat) (LI:Int->Nat->DT3) (GM:Zd->Zd->Zd->Zd->Zd->Zd->Zd->Bool) (a:Nat->Zw) (hL:(Y2 LN LI).Ok P) (hG:(c_gm7 GM).Ok P) (hR:∀ s,rowOk ⟨LN s,fun k=>LI s k⟩) (hs:∀ j,j < 7->0<=(a j).f0/\(a j).f0 < 4294967296):Zi P 166 (.cons (.rsl true 1 7 fun j=>ZW true (a j)) .nil) (.bool false (may7_r LN LI GM a)):=
 YI (Yh hm hn (l:=[Y2 LN LI,c_gm7 GM]) ⟨hL,hG,trivial⟩) 400 (Has.of hn Tryz.func166 rfl) (may7_tree LN LI GM a) (Tree.Pre.mk (And.intro (fun _=>True.intro) (fun hb0=>(And.intro (by first | exact ⟨rfl,Yd (hs 0 (by omega)) hb0⟩ | exact ⟨⟨rfl,hR _⟩,⟨rfl,hR _⟩,⟨rfl,hR _⟩,⟨rfl,hR _⟩,⟨rfl,hR _⟩,⟨rfl,hR _⟩,⟨rfl,hR _⟩⟩) (And.intro (fun _=>True.intro) (fun hb1=>(And.intro (by first | exact ⟨rfl,Yd (hs 1 (by omega)) hb1⟩ | exact ⟨⟨rfl,hR _⟩,⟨rfl,hR _⟩,⟨rfl,hR _⟩,⟨rfl,hR _⟩,⟨rfl,hR _⟩,⟨rfl,hR _⟩,⟨rfl,hR _⟩⟩) (And.intro (fun _=>True.intro) (fun hb2=>(And.intro (by first | exact ⟨rfl,Yd (hs 2 (by omega)) hb2⟩ | exact ⟨⟨rfl,hR _⟩,⟨rfl,hR _⟩,⟨rfl,hR _⟩,⟨rfl,hR _⟩,⟨rfl,hR _⟩,⟨rfl,hR _⟩,⟨rfl,hR _⟩⟩) (And.intro (fun _=>True.intro) (fun hb3=>(And.intro (by first | exact ⟨rfl,Yd (hs 3 (by omega)) hb3⟩ | exact ⟨⟨rfl,hR _⟩,⟨rfl,hR _⟩,⟨rfl,hR _⟩,⟨rfl,hR _⟩,⟨rfl,hR _⟩,⟨rfl,hR _⟩,⟨rfl,hR _⟩⟩) (And.intro (fun _=>True.intro) (fun hb4=>(And.intro (by first | exact ⟨rfl,Yd (hs 4 (by omega)) hb4⟩ | exact ⟨⟨rfl,hR _⟩,⟨rfl,hR _⟩,⟨rfl,hR _⟩,⟨rfl,hR _⟩,⟨rfl,hR _⟩,⟨rfl,hR _⟩,⟨rfl,hR _⟩⟩) (And.intro (fun _=>True.intro) (fun hb5=>(And.intro (by first | exact ⟨rfl,Yd (hs 5 (by omega)) hb5⟩ | exact ⟨⟨rfl,hR _⟩,⟨rfl,hR _⟩,⟨rfl,hR _⟩,⟨rfl,hR _⟩,⟨rfl,hR _⟩,⟨rfl,hR _⟩,⟨rfl,hR _⟩⟩) (And.intro (fun _=>True.intro) (fun hb6=>(And.intro (by first | exact ⟨rfl,Yd (hs 6 (by omega)) hb6⟩ | exact ⟨⟨rfl,hR _⟩,⟨rfl,hR _⟩,⟨rfl,hR _⟩,⟨rfl,hR _⟩,⟨rfl,hR _⟩,⟨rfl,hR _⟩,⟨rfl,hR _⟩⟩) (And.intro (by first | exact ⟨rfl,Yd (hs 6 (by omega)) hb6⟩ | exact ⟨⟨rfl,hR _⟩,⟨rfl,hR _⟩,⟨rfl,hR _⟩,⟨rfl,hR _⟩,⟨rfl,hR _⟩,⟨rfl,hR _⟩,⟨rfl,hR _⟩⟩) True.intro))))))))))))))))))))))) (by kernel_rfl) (by kernel_rfl)
def may7 (a:Nat->Zw):Bool:=may7_r (fun s=>Xr s.toNat) (fun s=>Xl s.toNat) (fun e0 e1 e2 e3 e4 e5 e6=>Xf 7 (row7 e0 e1 e2 e3 e4 e5 e6)) a
theorem Zmm (a:Nat->Zw) (hs:∀ j,j < 7->0<=(a j).f0/\(a j).f0 < 4294967296):Zi P 166 (.cons (.rsl true 1 7 fun j=>ZW true (a j)) .nil) (.bool false (may7 a)):=may7_gen (fun s=>Xr s.toNat) (fun s=>Xl s.toNat) (fun e0 e1 e2 e3 e4 e5 e6=>Xf 7 (row7 e0 e1 e2 e3 e4 e5 e6)) a KE c_gm7_ok (fun s=>Ka _) hs
def may8_T (LN:Int->Nat) (LI:Int->Nat->DT3) (GM:Zd->Zd->Zd->Zd->Zd->Zd->Zd->Zd->Bool) (a:Nat->Zw):Tree V:=
 let q0:=(Tree.leaf (V.bool true false))
 Tree.node (Yx (a 0).f0) q0 (Tree.need (V.cons (V.int false .u32 (a 0).f0) V.nil = V.cons (V.int false .u32 (a 0).f0) V.nil/\(0:Int)<=(a (0)).f0/\(a (0)).f0 < (256:Int)) (Tree.node (Yx (a 1).f0) q0 (Tree.need (V.cons (V.int false .u32 (a 1).f0) V.nil = V.cons (V.int false .u32 (a 1).f0) V.nil/\(0:Int)<=(a (0 + (1:Nat))).f0/\(a (0 + (1:Nat))).f0 < (256:Int)) (Tree.node (Yx (a 2).f0) q0 (Tree.need (V.cons (V.int false .u32 (a 2).f0) V.nil = V.cons (V.int false .u32 (a 2).f0) V.nil/\(0:Int)<=(a (1 + (1:Nat))).f0/\(a (1 + (1:Nat))).f0 < (256:Int)) (Tree.node (Yx (a 3).f0) q0 (Tree.need (V.cons (V.int false .u32 (a 3).f0) V.nil = V.cons (V.int false .u32 (a 3).f0) V.nil/\(0:Int)<=(a (2 + (1:Nat))).f0/\(a (2 + (1:Nat))).f0 < (256:Int)) (Tree.node (Yx (a 4).f0) q0 (Tree.need (V.cons (V.int false .u32 (a 4).f0) V.nil = V.cons (V.int false .u32 (a 4).f0) V.nil/\(0:Int)<=(a (3 + (1:Nat))).f0/\(a (3 + (1:Nat))).f0 < (256:Int)) (Tree.node (Yx (a 5).f0) q0 (Tree.need (V.cons (V.int false .u32 (a 5).f0) V.nil = V.cons (V.int false .u32 (a 5).f0) V.nil/\(0:Int)<=(a (4 + (1:Nat))).f0/\(a (4 + (1:Nat))).f0 < (256:Int)) (Tree.node (Yx (a 6).f0) q0 (Tree.need (V.cons (V.int false .u32 (a 6).f0) V.nil = V.cons (V.int false .u32 (a 6).f0) V.nil/\(0:Int)<=(a (5 + (1:Nat))).f0/\(a (5 + (1:Nat))).f0 < (256:Int)) (Tree.node (Yx (a 7).f0) q0 (Tree.need (V.cons (V.int false .u32 (a 7).f0) V.nil = V.cons (V.int false .u32 (a 7).f0) V.nil/\(0:Int)<=(a (6 + (1:Nat))).f0/\(a (6 + (1:Nat))).f0 < (256:Int)) (Tree.need ((V.cons (lsV LN LI (a 0).f0) V.nil = V.cons (lsV LN LI (a 0).f0) V.nil/\rowOk (lsR LN LI (a 0).f0))/\(V.cons (lsV LN LI (a 1).f0) V.nil = V.cons (lsV LN LI (a 1).f0) V.nil/\rowOk (lsR LN LI (a 1).f0))/\(V.cons (lsV LN LI (a 2).f0) V.nil = V.cons (lsV LN LI (a 2).f0) V.nil/\rowOk (lsR LN LI (a 2).f0))/\(V.cons (lsV LN LI (a 3).f0) V.nil = V.cons (lsV LN LI (a 3).f0) V.nil/\rowOk (lsR LN LI (a 3).f0))/\(V.cons (lsV LN LI (a 4).f0) V.nil = V.cons (lsV LN LI (a 4).f0) V.nil/\rowOk (lsR LN LI (a 4).f0))/\(V.cons (lsV LN LI (a 5).f0) V.nil = V.cons (lsV LN LI (a 5).f0) V.nil/\rowOk (lsR LN LI (a 5).f0))/\(V.cons (lsV LN LI (a 6).f0) V.nil = V.cons (lsV LN LI (a 6).f0) V.nil/\rowOk (lsR LN LI (a 6).f0))/\V.cons (lsV LN LI (a 7).f0) V.nil = V.cons (lsV LN LI (a 7).f0) V.nil/\rowOk (lsR LN LI (a 7).f0)) (Tree.leaf (V.bool false (GM (lsR LN LI (a 0).f0) (lsR LN LI (a 1).f0) (lsR LN LI (a 2).f0) (lsR LN LI (a 3).f0) (lsR LN LI (a 4).f0) (lsR LN LI (a 5).f0) (lsR LN LI (a 6).f0) (lsR LN LI (a 7).f0))))))))))))))))))))
theorem may8_tree (LN:Int->Nat) (LI:Int->Nat->DT3) (GM:Zd->Zd->Zd->Zd->Zd->Zd->Zd->Zd->Bool) (a:Nat->Zw):ZQ (Zo P [Y2 LN LI,c_gm8 GM] [252,166]) 400 166 (.cons (.rsl true 1 8 fun j=>ZW true (a j)) .nil) = may8_T LN LI GM a:=by kernel_rfl
def may8_r (LN:Int->Nat) (LI:Int->Nat->DT3) (GM:Zd->Zd->Zd->Zd->Zd->Zd->Zd->Zd->Bool) (a:Nat->Zw):Bool:=(may8_T LN LI GM a).join.toBool
theorem may8_gen (LN:Int->Nat) (LI:Int->Nat->DT3) (GM:Zd->Zd->Zd->Zd->Zd->Zd->Zd->Zd->Bool) (a:Nat->Zw) (hL:(Y2 LN LI).Ok P) (hG:(c_gm8 GM).Ok P) (hR:∀ s,rowOk ⟨LN s,fun k=>LI s k⟩) (hs:∀ j,j < 8->0<=(a j).f0/\(a j).f0 < 4294967296):Zi P 166 (.cons (.rsl true 1 8 fun j=>ZW true (a j)) .nil) (.bool false (may8_r LN LI GM a)):=
 YI (Yh hm hn (l:=[Y2 LN LI,c_gm8 GM]) ⟨hL,hG,trivial⟩) 400 (Has.of hn Tryz.func166 rfl) (may8_tree LN LI GM a) (Tree.Pre.mk (And.intro (fun _=>True.intro) (fun hb0=>(And.intro (by first | exact ⟨rfl,Yd (hs 0 (by omega)) hb0⟩ | exact ⟨⟨rfl,hR _⟩,⟨rfl,hR _⟩,⟨rfl,hR _⟩,⟨rfl,hR _⟩,⟨rfl,hR _⟩,⟨rfl,hR _⟩,⟨rfl,hR _⟩,⟨rfl,hR _⟩⟩) (And.intro (fun _=>True.intro) (fun hb1=>(And.intro (by first | exact ⟨rfl,Yd (hs 1 (by omega)) hb1⟩ | exact ⟨⟨rfl,hR _⟩,⟨rfl,hR _⟩,⟨rfl,hR _⟩,⟨rfl,hR _⟩,⟨rfl,hR _⟩,⟨rfl,hR _⟩,⟨rfl,hR _⟩,⟨rfl,hR _⟩⟩) (And.intro (fun _=>True.intro) (fun hb2=>(And.intro (by first | exact ⟨rfl,Yd (hs 2 (by omega)) hb2⟩ | exact ⟨⟨rfl,hR _⟩,⟨rfl,hR _⟩,⟨rfl,hR _⟩,⟨rfl,hR _⟩,⟨rfl,hR _⟩,⟨rfl,hR _⟩,⟨rfl,hR _⟩,⟨rfl,hR _⟩⟩) (And.intro (fun _=>True.intro) (fun hb3=>(And.intro (by first | exact ⟨rfl,Yd (hs 3 (by omega)) hb3⟩ | exact ⟨⟨rfl,hR _⟩,⟨rfl,hR _⟩,⟨rfl,hR _⟩,⟨rfl,hR _⟩,⟨rfl,hR _⟩,⟨rfl,hR _⟩,⟨rfl,hR _⟩,⟨rfl,hR _⟩⟩) (And.intro (fun _=>True.intro) (fun hb4=>(And.intro (by first | exact ⟨rfl,Yd (hs 4 (by omega)) hb4⟩ | exact ⟨⟨rfl,hR _⟩,⟨rfl,hR _⟩,⟨rfl,hR _⟩,⟨rfl,hR _⟩,⟨rfl,hR _⟩,⟨rfl,hR _⟩,⟨rfl,hR _⟩,⟨rfl,hR _⟩⟩) (And.intro (fun _=>True.intro) (fun hb5=>(And.intro (by first | exact ⟨rfl,Yd (hs 5 (by omega)) hb5⟩ | exact ⟨⟨rfl,hR _⟩,⟨rfl,hR _⟩,⟨rfl,hR _⟩,⟨rfl,hR _⟩,⟨rfl,hR _⟩,⟨rfl,hR _⟩,⟨rfl,hR _⟩,⟨rfl,hR _⟩⟩) (And.intro (fun _=>True.intro) (fun hb6=>(And.intro (by first | exact ⟨rfl,Yd (hs 6 (by omega)) hb6⟩ | exact ⟨⟨rfl,hR _⟩,⟨rfl,hR _⟩,⟨rfl,hR _⟩,⟨rfl,hR _⟩,⟨rfl,hR _⟩,⟨rfl,hR _⟩,⟨rfl,hR _⟩,⟨rfl,hR _⟩⟩) (And.intro (fun _=>True.intro) (fun hb7=>(And.intro (by first | exact ⟨rfl,Yd (hs 7 (by omega)) hb7⟩ | exact ⟨⟨rfl,hR _⟩,⟨rfl,hR _⟩,⟨rfl,hR _⟩,⟨rfl,hR _⟩,⟨rfl,hR _⟩,⟨rfl,hR _⟩,⟨rfl,hR _⟩,⟨rfl,hR _⟩⟩) (And.intro (by first | exact ⟨rfl,Yd (hs 7 (by omega)) hb7⟩ | exact ⟨⟨rfl,hR _⟩,⟨rfl,hR _⟩,⟨rfl,hR _⟩,⟨rfl,hR _⟩,⟨rfl,hR _⟩,⟨rfl,hR _⟩,⟨rfl,hR _⟩,⟨rfl,hR _⟩⟩) True.intro)))))))))))))))))))))))))) (by kernel_rfl) (by kernel_rfl)
def may8 (a:Nat->Zw):Bool:=may8_r (fun s=>Xr s.toNat) (fun s=>Xl s.toNat) (fun e0 e1 e2 e3 e4 e5 e6 e7=>Xf 8 (row8 e0 e1 e2 e3 e4 e5 e6 e7)) a
theorem Zl5 (a:Nat->Zw) (hs:∀ j,j < 8->0<=(a j).f0/\(a j).f0 < 4294967296):Zi P 166 (.cons (.rsl true 1 8 fun j=>ZW true (a j)) .nil) (.bool false (may8 a)):=may8_gen (fun s=>Xr s.toNat) (fun s=>Xl s.toNat) (fun e0 e1 e2 e3 e4 e5 e6 e7=>Xf 8 (row8 e0 e1 e2 e3 e4 e5 e6 e7)) a KE c_gm8_ok (fun s=>Ka _) hs
def Zci (n:Nat) (a:Nat->Zw):Bool:=match n with
 | 0=>may0 a
 | 1=>may1 a
 | 2=>may2 a
 | 3=>may3 a
 | 4=>may4 a
 | 5=>may5 a
 | 6=>may6 a
 | 7=>may7 a
 | 8=>may8 a
 | _=>false
theorem Zi3 (n:Nat) (hn8:n<=8) (a:Nat->Zw) (hs:∀ j,j < n->0<=(a j).f0/\(a j).f0 < 4294967296):Zi P 166 (.cons (.rsl false 1 n fun j=>ZW false (a j)) .nil) (.bool false (Zci n a)):=by
 have key:Zi P 166 (.cons (.rsl true 1 n fun j=>ZW true (a j)) .nil) (.bool false (Zci n a)):=by
  match n,hn8,hs with
  | 0,_,hs=>exact ZjX a hs
  | 1,_,hs=>exact ZkR a hs
  | 2,_,hs=>exact Zmx a hs
  | 3,_,hs=>exact ZjF a hs
  | 4,_,hs=>exact ZkD a hs
  | 5,_,hs=>exact Zkc a hs
  | 6,_,hs=>exact ZiJ a hs
  | 7,_,hs=>exact Zmm a hs
  | 8,_,hs=>exact Zl5 a hs
  | _ + 9,h,_=>omega
 exact Zi.args key fun F w n' m xs hx=>((Y7 (.cons (.rsl true 1 n fun j=>ZW true (a j)) .nil) n' m).2 xs).1 (((Y7 (.cons (.rsl false 1 n fun j=>ZW false (a j)) .nil) n' m).2 xs).2 hx)
def Uu:Con:={ g:=166,al:=true,ans:=fun x=>match x with
 | .cons (.rsl _ 1 n get) .nil=>some (.where_ (n<=8/\∀ j,j < n->(get j).soft = ZW false (WA (get j))/\0<=(WA (get j)).f0/\(WA (get j)).f0 < 4294967296) (.bool false (Zci n fun j=>WA (get j))))
 | _=>none }
theorem Zgg:Uu.Ok P:=by
 intro x
 dsimp only [Uu]
 split
 ·rename_i v h
  split at h <;> cases h
 ·rename_i p v h
  split at h
  ·rename_i n get
   injection h with h
   injection h with h1 h2
   subst h1; subst h2
   intro hp
   exact Zi.args (Zi3 n hp.1 (fun j=>WA (get j)) (fun j hj=>(hp.2 j hj).2)) fun F w n' m xs hx=>Ko (fun j hj=>by rw [(hp.2 j hj).1]; rfl) hx
  ·cases h
 ·rename_i h
  split at h <;> cases h
 ·trivial
abbrev Zaw (d:Zc) (i:Int) (z:Unit):V:=(.cons (.ptr true 0 0 0 0) (.cons (.bool true false) (.cons (.rsl false 2 (Zb.n5 (Zc.a d)) (fun j=>ZE false ((Zc.a d).r5 j))) (.cons (.int false .i64 (((Zb.n5 (Zc.a d)):Nat):Int)) (.cons (.int false .i64 i) .nil)))))
abbrev ZaN (d:Zc) (i:Int) (z:Unit):List Blk:=[.var (ZM d.a),mO d,mN d,mH d]
def ga1_R (d:Zc) (i:Int) (z:Unit):Tree Rd:=
 let q0:=(JI d (d.a.r5 (Int.toNat i)).n1 (fun j=>YF (Ym false ((d.a.r5 (Int.toNat i)).3 j))) (d.a.r5 (Int.toNat i)).n1)
 let q4:=(V.rsl false 2 d.a.n5 fun j=>ZE false (d.a.r5 j))
 let q1:=(V.cons (V.rsl false 2 d.a.n1 fun j=>Yk false (d.a.r1 j)) (V.cons (V.rsl false 1 d.a.n2 fun j=>V.cons (V.int false .u32 (d.a.r2 j).f0) V.nil) (V.cons (V.rsl false 4 d.a.n3 fun j=>Zm false (d.a.r3 j)) (V.cons (V.rsl false 4 d.a.n4 fun j=>Zk false (d.a.r4 j)) (V.cons q4 (V.cons (V.rsl false 11 d.a.n6 fun j=>ZT false (d.a.r6 j)) (V.cons (V.rsl false 2 d.a.n7 fun j=>ZN false (d.a.r7 j)) (V.cons (V.rsl false 5 d.a.n8 fun j=>ZG false (d.a.r8 j)) (ci d.a.f9 (V.cons (V.rsl false 2 d.a.n10 fun j=>Zr false (d.a.r10 j)) (V.cons (V.rsl false 3 d.a.n11 fun j=>Zl false (d.a.r11 j)) (V.cons (V.rsl false 2 d.a.n12 fun j=>Yq false (d.a.r12 j)) (V.cons (V.int false .u64 d.a.f13) (V.cons (V.mp 1) (V.cons (V.mp 2) (V.cons (V.mp 3) V.nil))))))))))))))))
 let q3:=(V.rsl false 2 d.a.n5 fun jj=>ZE false (d.a.r5 jj))
 let q2:=(Tree.leaf (Ex.ret,true,V.cons (pt 0) (V.cons (V.bool true false) (V.cons q3 (ci ((d.a.n5:Nat):Int) (ci i V.nil)))),[Blk.var (ZM d.a),mO d,mN d,mH d]))
 Tree.need ((0:Int)<=i/\i < ((d.a.n5:Nat):Int)) (Tree.need ((d.a.r5 (Int.toNat i)).n1<=(1000:Nat)/\(V.ptr false 0 0 0 0 = V.ptr false 0 0 0 0/\V.bool false false = V.bool false false/\V.ptr false 4 0 0 0 = V.ptr false 4 0 0 0/\((0:Nat) = (0:Nat)/\(5:Nat) < (6:Nat))/\(q4 = V.rsl false 2 d.a.n5 fun j=>ZE false (d.a.r5 j))/\vi ((d.a.n5:Nat):Int) = vi ((d.a.n5:Nat):Int)/\vi i = vi i/\((V.rsl false 1 (d.a.r5 (Int.toNat i)).n1 fun j=>ci ((d.a.r5 (Int.toNat i)).3 j).f0 V.nil) = V.rsl false 1 (d.a.r5 (Int.toNat i)).n1 fun j=>ci ((d.a.r5 (Int.toNat i)).3 j).f0 V.nil)/\vi (((d.a.r5 (Int.toNat i)).n1:Nat):Int) = vi (((d.a.r5 (Int.toNat i)).n1:Nat):Int)/\vi (0:Int) = vi (0:Int)/\V.nil = V.nil)/\ci d.a.f0 q1 = ci d.a.f0 q1/\(IntKind.i64 = IntKind.i64/\ZX .i64 (fun x=>(d.2 (Za x),vi (d.3 (Za x)))) fun k=>(d.2 (Za k),vi (d.3 (Za k))))/\(IntKind.i64 = IntKind.i64/\ZX .i64 (fun x=>(d.4 (Za x),vi (d.5 (Za x)))) fun k=>(d.4 (Za k),vi (d.5 (Za k))))/\(IntKind.i64 = IntKind.i64/\ZX .i64 (fun x=>(d.6 (Za x),vi (d.7 (Za x)))) fun k=>(d.6 (Za k),vi (d.7 (Za k))))/\ZE false (d.a.r5 (Int.toNat i)) = ZE false (d.a.r5 (Int.toNat i))/\(0:Nat) = (0:Nat)/\True) (Tree.node (bif Zp (ga2_bad d (d.a.r5 (Int.toNat i)).n1 fun j=>YF (Ym false ((d.a.r5 (Int.toNat i)).3 j))) (d.a.r5 (Int.toNat i)).n1 then true else false) q2 (Tree.need ((0:Nat) + Prod.fst q0<=Prod.fst q0) (Tree.need (Prod.fst q0<=(8:Nat)/\∀ (j:Nat),j < Prod.fst q0->V.cons (V.int false .u32 (q0.2 ((0:Nat) + j)).f0) V.nil = ZW false (WA (ZW false (q0.2 ((0:Nat) + j))))/\(0:Int)<=(q0.2 ((0:Nat) + j)).f0/\(q0.2 ((0:Nat) + j)).f0 < (4294967296:Int)) (Tree.node (bif !Zci (Prod.fst q0) fun j=>WA (ZW false (q0.2 ((0:Nat) + j))) then true else false) q2 (Tree.leaf (Ex.normal,true,V.cons (pt 0) (V.cons (V.bool true false) (V.cons q3 (ci ((d.a.n5:Nat):Int) (ci (IntKind.wrap .i64 (i + (1:Int))) V.nil)))),[Blk.var (ZM d.a),mO d,mN d,mH d])))))))
theorem ga1_round (d:Zc):Yp P (Zn P [XU,Uu] [ga2_in d] true) 65 2 4 4 59 [0,2,13,14,15] [(0,.own),(1,.own),(2,.own),(3,.own)] [] (Zaw d) (ZaN d) (fun i=>(bif decide (i < ((d.a.n5:Nat):Int)) then false else true)) (.exit 0) (ga1_R d):=fun B i z=>by kernel_rfl
def Zej (d:Zc) (k:Nat):Bool:=(ga1_R d k ()).early
abbrev ga1_ets (d:Zc) (i:Int) (z:Unit):V:=(.cons (V.ptr true 0 0 0 0) (.cons (V.bool true false) (.cons (V.rsl false 2 d.a.n5 fun jj=>ZE false (d.a.r5 jj)) (.cons (V.int false .i64 ((d.a.n5:Nat):Int)) (.cons .junk .nil)))))
def Zdz (d:Zc):Lp:=lpL 65 2 4 4 59 [0,2,13,14,15] [(0,.own),(1,.own),(2,.own),(3,.own)] [] (Zaw d) (ZaN d) (.exit 0) .ret () (fun _=>()) (Zej d) (Zb.n5 (Zc.a d)) (ga1_ets d) (ZaN d)
def ga1_need (d:Zc):Prop:=YP 4 [] (Zaw d) (ZaN d) () (Zaw d (0:Nat) ()) (ZaN d (0:Nat) ())
theorem ga1_fit (d:Zc):ga1_need d:=⟨rfl,⟨rfl,⟨rfl,fun _=>⟨rfl,rfl⟩⟩,⟨rfl,fun _=>⟨rfl,rfl⟩⟩,⟨rfl,fun _=>⟨rfl,rfl⟩⟩,trivial⟩⟩
theorem ga1_lp_ok (d:Zc) (hl:d.a.n5<=1000) (hM:∀ j,j < d.a.n5->0 < (d.a.r5 j).n1/\(d.a.r5 j).n1<=8) (hMA:∀ j,(d.a.r5 j).n1<=1000) (hO:∀ j:Int,d.oh j = true->0<=d.og j/\d.og j < d.a.n6) (h64:d.a.n6 = d.a.n4) (hl3:d.a.n3<=1000) (hl4:d.a.n4<=1000) (hH:0 < d.a.n4->∀ j:Int,0<=(bif d.hh j then d.hg j else 0)/\(bif d.hh j then d.hg j else 0) < d.a.n3) (hP:0 < d.a.n4->∀ j:Int,0<=(d.a.r3 (bif d.hh j then d.hg j else 0).toNat).f3/\(d.a.r3 (bif d.hh j then d.hg j else 0).toNat).f3 < d.a.n2):(Zdz d).Ok P:=by
 refine Y4 (Zu hm hn (l:=[XU,Uu]) ⟨KW,Zgg,trivial⟩ (ls:=[ga2_in d]) ⟨ga2_in_ok d hO h64 hl3 hl4 hH hP,trivial⟩ true) rfl (by kernel_rfl) (ga1_round d) exN YB (fun _=>rfl) (step:=fun _ z=>z) (rd:=(fun _ t y=>())) (fun i z=>rfl) (fun i=>rfl) rfl (fun i hlt hg=>?_) (fun i z hi=>?_)
 ·have hltI:(i:Int) < (((Zb.n5 (Zc.a d)):Nat):Int):=by omega
  refine ⟨?_,⟨?_,⟨fun hb0=>trivial,fun hb0=>⟨?_,⟨?_,⟨fun hb1=>trivial,fun hb1=>trivial⟩⟩⟩⟩⟩⟩
  all_goals (have hf0:=hM ((i:Int).toNat) (by omega))
  all_goals (repeat' (first | exact rfl | exact fun _=>⟨rfl,rfl⟩ | apply And.intro | intro _))
  all_goals (try simp only [decide_eq_true_eq,decide_eq_false_iff_not,Bool.not_eq_true',Bool.not_eq_false'] at *)
  all_goals (try simp (disch:=omega) only [IntWalk.i64_in])
  all_goals (first | omega | exact hMA _ | exact (Nat.le_trans (ga2_cnt _ _ _ _) (hM _ (by omega)).2) | exact (Zb3 _ _ _ _ _ (by assumption)).1 | exact (Zb3 _ _ _ _ _ (by assumption)).2 | exact (by rw [Nat.zero_add]; exact (Zb3 _ _ _ _ _ (by assumption)).1) | exact (by rw [Nat.zero_add]; exact (Zb3 _ _ _ _ _ (by assumption)).2))
 ·have hw:=(IntWalk.i64_in ((i:Int) + 1) ⟨by omega,by omega⟩)
  refine ⟨?_,⟨?_,?_⟩⟩
  all_goals (first | exact ⟨rfl,YD (ts:=Zaw d) (a:=()) hw rfl,Z7 _⟩ | exact ⟨rfl,rfl,(by repeat' (first | exact Le.refl _ | exact Le.junk _ rfl | apply Le.cons)),Z7 _⟩)
end Go.Proofs.YtnjjailadijdlaaGreatDoor
end
