/- gang.matching's function: its loop -/
import Derived.Test.YtnjjailadijdlaaGreatDoorMAv
import Derived.Test.YtnjjailadijdlaaGreatDoorMAm
import Derived.Test.YtnjjailadijdlaaGreatDoorMAo
import Derived.Test.YtnjjailadijdlaaGreatDoorMAs
set_option maxRecDepth 100000
set_option linter.unusedVariables false
set_option linter.unusedSimpArgs false
noncomputable section
namespace Go.Proofs.YtnjjailadijdlaaGreatDoor
open Go.Fw
abbrev Gx (m:Nat) (r:Nat->Zd) (G:Int->S4->Bool×S4) (Pr:Int->S4->Prop) (L:Nat) (row:Nat->DT3) (w:Int) (z0:S4) (i:Int) (z:S4):V:=(.cons (.int false .i64 w) (.cons (.mp 0) (.cons (.ptr true 1 0 0 0) (.cons (.ptr true 2 0 0 0) (.cons (.ptr true 3 0 0 0) (.cons (.bool true false) (.cons (.rsl false 1 L (fun j=>Ym false (row j))) (.cons (.int false .i64 ((L:Nat):Int)) (.cons (.int false .i64 i) .nil)))))))))
abbrev Gr (m:Nat) (r:Nat->Zd) (G:Int->S4->Bool×S4) (Pr:Int->S4->Prop) (L:Nat) (row:Nat->DT3) (w:Int) (z0:S4) (i:Int) (z:S4):List Blk:=[.Ze (.int .i64) false (fun x=>(z.1 (Za x),.bool false (z.2.1 (Za x)))) none,.var (.cons (.rsl false 1 m (fun j=>QW false (r j))) .nil),.var (.cons (.mp 4) .nil),.var (.cons (.fn (.func 301) .nil (.cons (.ptr true 1 0 0 0) (.cons (.ptr true 2 0 0 0) (.cons (.ptr true 3 0 0 0) .nil)))) .nil),.Ze (.int .i64) false (fun x=>(z.2.2.1 (Za x),.int false .i64 (z.2.2.2 (Za x)))) none]
def gv_T (m:Nat) (r:Nat->Zd) (G:Int->S4->Bool×S4) (Pr:Int->S4->Prop) (L:Nat) (row:Nat->DT3) (w:Int) (z0:S4) (i:Int) (z:S4):Tree (Ex×Bool×V×List Blk):=
 let q11:=Value.int .i64 (row (Int.toNat i)).f0
 let q23:=bif (Prod.snd (Prod.snd z)).1 (Za q11) then (Prod.snd (Prod.snd z)).2 (Za q11) else (0:Int)
 let q0:=G q23 (fun j=>bif Zj (Value.int .i64 j) q11 then true else z.1 j,fun j=>bif Zj (Value.int .i64 j) q11 then true else (Prod.snd z).1 j,fun j=>(Prod.snd (Prod.snd z)).1 j,fun j=>(Prod.snd (Prod.snd z)).2 j)
 let q19:=pt 1
 let q20:=pt 2
 let q21:=pt 3
 let q12:=V.cons (V.fn (Fn.func (301:FuncId)) V.nil (V.cons q19 (V.cons q20 (V.cons q21 V.nil)))) V.nil
 let q18:=V.cons (V.rsl false 1 m fun jj=>V.cons (V.rsl false 1 (Zd.n0 (r jj)) fun j=>ci ((r jj).2 j).f0 V.nil) V.nil) V.nil
 let q26:=V.cons (V.mp 4) V.nil
 let q13:=[Blk.Ze (MK.int .i64) false (fun k=>(z.1 (Za k),V.bool false ((Prod.snd z).1 (Za k)))) none,Blk.var q18,Blk.var q26,Blk.var q12,Blk.Ze (MK.int .i64) false (fun k=>((Prod.snd (Prod.snd z)).1 (Za k),vi ((Prod.snd (Prod.snd z)).2 (Za k)))) none]
 let q25:=V.rsl false 1 L fun jj=>ci (row jj).f0 V.nil
 let q14:=V.cons (V.mp 0) (V.cons q19 (V.cons q20 (V.cons q21 (V.cons (V.bool true false) (V.cons q25 (ci (L:Int) (ci (IntKind.wrap .i64 (i + (1:Int))) V.nil)))))))
 let q16:=V.cons q25 (ci (L:Int) (ci i V.nil))
 let q15:=V.cons (V.mp 0) (V.cons q19 (V.cons q20 (V.cons q21 (V.cons (V.bool true true) q16))))
 let q17:=V.cons (V.rsl false 1 m fun j=>V.cons (V.rsl false 1 (Zd.n0 (r j)) fun j_1=>ci ((r j).2 j_1).f0 V.nil) V.nil) V.nil
 let q22:=Prod.snd (Prod.snd q0)
 let q24:=vi w
 Tree.node (decide (i < (L:Int))) (Tree.need ((0:Int)<=i/\i < (L:Int)) (Tree.node (bif z.1 (Za q11) then (Prod.snd z).1 (Za q11) else false) (Tree.leaf (Ex.normal,true,V.cons q24 q14,q13)) (Tree.node (!(Prod.snd (Prod.snd z)).1 (Za q11)) (Tree.leaf (Ex.ret,true,V.cons q24 q15,[Blk.Ze (MK.int .i64) false (fun k=>(bif Zj k q11 then true else z.1 (Za k),V.bool false (bif Zj k q11 then true else (Prod.snd z).1 (Za k)))) none,Blk.var q18,Blk.var q26,Blk.var q12,Blk.Ze (MK.int .i64) false (fun k=>(bif Zj k q11 then true else (Prod.snd (Prod.snd z)).1 (Za k),vi (bif Zj k q11 then w else (Prod.snd (Prod.snd z)).2 (Za k)))) none])) (Tree.need (m = m/\((fun j=>V.cons (V.rsl false 1 (Zd.n0 (r j)) fun j_1=>ci ((r j).2 j_1).f0 V.nil) V.nil) = fun j=>V.cons (V.rsl false 1 (Zd.n0 (r j)) fun j_1=>ci ((r j).2 j_1).f0 V.nil) V.nil)/\(ZX .i64 (fun x=>(bif Zj (Value.int .i64 (Za x)) q11 then true else z.1 (Za x),V.bool false (bif Zj (Value.int .i64 (Za x)) q11 then true else (Prod.snd z).1 (Za x)))) fun k=>(bif Zj k q11 then true else z.1 (Za k),V.bool false (bif Zj k q11 then true else (Prod.snd z).1 (Za k))))/\(ZX .i64 (fun x=>((Prod.snd (Prod.snd z)).1 (Za x),vi ((Prod.snd (Prod.snd z)).2 (Za x)))) fun k=>((Prod.snd (Prod.snd z)).1 (Za k),vi ((Prod.snd (Prod.snd z)).2 (Za k))))/\Pr q23 (fun j=>bif Zj (Value.int .i64 j) q11 then true else z.1 j,fun j=>bif Zj (Value.int .i64 j) q11 then true else (Prod.snd z).1 j,fun j=>(Prod.snd (Prod.snd z)).1 j,fun j=>(Prod.snd (Prod.snd z)).2 j)) (Tree.node (Prod.fst q0) (Tree.leaf (Ex.ret,true,V.cons q24 q15,[Blk.Ze (MK.int .i64) false (fun k=>((Prod.snd q0).1 (Za k),V.bool false (q22.1 (Za k)))) none,Blk.var q17,Blk.var q26,Blk.var q12,Blk.Ze (MK.int .i64) false (fun k=>(bif Zj k q11 then true else (Prod.snd q22).1 (Za k),vi (bif Zj k q11 then w else (Prod.snd q22).2 (Za k)))) none])) (Tree.leaf (Ex.normal,true,V.cons q24 q14,[Blk.Ze (MK.int .i64) false (fun k=>((Prod.snd q0).1 (Za k),V.bool false (q22.1 (Za k)))) none,Blk.var q17,Blk.var q26,Blk.var q12,Blk.Ze (MK.int .i64) false (fun k=>((Prod.snd q22).1 (Za k),vi ((Prod.snd q22).2 (Za k)))) none]))))))) (Tree.leaf (Ex.exit 0,true,V.cons q24 (V.cons (V.mp 0) (V.cons q19 (V.cons q20 (V.cons q21 (V.cons (V.bool true false) q16))))),q13))
theorem gv_round (B:Base) (m:Nat) (r:Nat->Zd) (G:Int->S4->Bool×S4) (Pr:Int->S4->Prop) (L:Nat) (row:Nat->DT3) (w:Int) (z0:S4) (i:Int) (z:S4):((ev { Zo P [] [301] with hk:=WR [⟨301,QZ m r G Pr⟩] } 400 301 (Qu P 301 2) B (Yg 5 44 [0,1,2,3,4,7,15,16,17] [(0,.own),(1,.own),(2,.own),(3,.own),(4,.own)] (Gx m r G Pr L row w z0 i z) (Gr m r G Pr L row w z0 i z))).bind fun x=>Tree.leaf (x.1,vwN 5 5 44 [0,1,2,3,4,7,15,16,17] [(0,.own),(1,.own),(2,.own),(3,.own),(4,.own)] x.2)) = gv_T m r G Pr L row w z0 i z:=by kernel_rfl
def ZfN (G:Int->S4->Bool×S4) (row:Nat->DT3) (w:Int) (z0:S4) (k:Nat) (z:S4):S4:=(fun (i:Int) (z:S4)=>(bif bif z.1 (Za (Value.int IntKind.i64 (DT3.f0 (row (Int.toNat i))))) then (Prod.snd z).1 (Za (Value.int IntKind.i64 (DT3.f0 (row (Int.toNat i))))) else false then (((fun (j_:Int)=>z.1 (j_)),(fun (j_:Int)=>(Prod.snd z).1 (j_)),(fun (j_:Int)=>(Prod.snd (Prod.snd z)).1 (j_)),(fun (j_:Int)=>(Prod.snd (Prod.snd z)).2 (j_)))) else (bif !(Prod.snd (Prod.snd z)).1 (Za (Value.int IntKind.i64 (DT3.f0 (row (Int.toNat i))))) then ((z.1,z.2.1,z.2.2.1,z.2.2.2)) else (bif Prod.fst (G (bif (Prod.snd (Prod.snd z)).1 (Za (Value.int IntKind.i64 (DT3.f0 (row (Int.toNat i))))) then (Prod.snd (Prod.snd z)).2 (Za (Value.int IntKind.i64 (DT3.f0 (row (Int.toNat i))))) else (0:Int)) (fun j=>bif Zj (Value.int IntKind.i64 j) (Value.int IntKind.i64 (DT3.f0 (row (Int.toNat i)))) then true else z.1 (Za (Value.int IntKind.i64 j)),fun j=>bif Zj (Value.int IntKind.i64 j) (Value.int IntKind.i64 (DT3.f0 (row (Int.toNat i)))) then true else (Prod.snd z).1 (Za (Value.int IntKind.i64 j)),fun j=>(Prod.snd (Prod.snd z)).1 (Za (Value.int IntKind.i64 j)),fun j=>(Prod.snd (Prod.snd z)).2 (Za (Value.int IntKind.i64 j)))) then ((z.1,z.2.1,z.2.2.1,z.2.2.2)) else (((fun (j_:Int)=>(Prod.snd (G (bif (Prod.snd (Prod.snd z)).1 (Za (Value.int IntKind.i64 (DT3.f0 (row (Int.toNat i))))) then (Prod.snd (Prod.snd z)).2 (Za (Value.int IntKind.i64 (DT3.f0 (row (Int.toNat i))))) else (0:Int)) (fun j=>bif Zj (Value.int IntKind.i64 j) (Value.int IntKind.i64 (DT3.f0 (row (Int.toNat i)))) then true else z.1 (Za (Value.int IntKind.i64 j)),fun j=>bif Zj (Value.int IntKind.i64 j) (Value.int IntKind.i64 (DT3.f0 (row (Int.toNat i)))) then true else (Prod.snd z).1 (Za (Value.int IntKind.i64 j)),fun j=>(Prod.snd (Prod.snd z)).1 (Za (Value.int IntKind.i64 j)),fun j=>(Prod.snd (Prod.snd z)).2 (Za (Value.int IntKind.i64 j))))).1 (j_)),(fun (j_:Int)=>(Prod.snd (Prod.snd (G (bif (Prod.snd (Prod.snd z)).1 (Za (Value.int IntKind.i64 (DT3.f0 (row (Int.toNat i))))) then (Prod.snd (Prod.snd z)).2 (Za (Value.int IntKind.i64 (DT3.f0 (row (Int.toNat i))))) else (0:Int)) (fun j=>bif Zj (Value.int IntKind.i64 j) (Value.int IntKind.i64 (DT3.f0 (row (Int.toNat i)))) then true else z.1 (Za (Value.int IntKind.i64 j)),fun j=>bif Zj (Value.int IntKind.i64 j) (Value.int IntKind.i64 (DT3.f0 (row (Int.toNat i)))) then true else (Prod.snd z).1 (Za (Value.int IntKind.i64 j)),fun j=>(Prod.snd (Prod.snd z)).1 (Za (Value.int IntKind.i64 j)),fun j=>(Prod.snd (Prod.snd z)).2 (Za (Value.int IntKind.i64 j)))))).1 (j_)),(fun (j_:Int)=>(Prod.snd (Prod.snd (Prod.snd (G (bif (Prod.snd (Prod.snd z)).1 (Za (Value.int IntKind.i64 (DT3.f0 (row (Int.toNat i))))) then (Prod.snd (Prod.snd z)).2 (Za (Value.int IntKind.i64 (DT3.f0 (row (Int.toNat i))))) else (0:Int)) (fun j=>bif Zj (Value.int IntKind.i64 j) (Value.int IntKind.i64 (DT3.f0 (row (Int.toNat i)))) then true else z.1 (Za (Value.int IntKind.i64 j)),fun j=>bif Zj (Value.int IntKind.i64 j) (Value.int IntKind.i64 (DT3.f0 (row (Int.toNat i)))) then true else (Prod.snd z).1 (Za (Value.int IntKind.i64 j)),fun j=>(Prod.snd (Prod.snd z)).1 (Za (Value.int IntKind.i64 j)),fun j=>(Prod.snd (Prod.snd z)).2 (Za (Value.int IntKind.i64 j))))))).1 (j_)),(fun (j_:Int)=>(Prod.snd (Prod.snd (Prod.snd (G (bif (Prod.snd (Prod.snd z)).1 (Za (Value.int IntKind.i64 (DT3.f0 (row (Int.toNat i))))) then (Prod.snd (Prod.snd z)).2 (Za (Value.int IntKind.i64 (DT3.f0 (row (Int.toNat i))))) else (0:Int)) (fun j=>bif Zj (Value.int IntKind.i64 j) (Value.int IntKind.i64 (DT3.f0 (row (Int.toNat i)))) then true else z.1 (Za (Value.int IntKind.i64 j)),fun j=>bif Zj (Value.int IntKind.i64 j) (Value.int IntKind.i64 (DT3.f0 (row (Int.toNat i)))) then true else (Prod.snd z).1 (Za (Value.int IntKind.i64 j)),fun j=>(Prod.snd (Prod.snd z)).1 (Za (Value.int IntKind.i64 j)),fun j=>(Prod.snd (Prod.snd z)).2 (Za (Value.int IntKind.i64 j))))))).2 (j_)))))))) k z
def Yi (G:Int->S4->Bool×S4) (row:Nat->DT3) (w:Int) (z0:S4) (k:Nat):S4:=ZI z0 (ZfN G row w z0) k
def YO (G:Int->S4->Bool×S4) (row:Nat->DT3) (w:Int) (z0:S4) (k:Nat):Bool:=(fun (i:Int) (z:S4)=>(bif bif z.1 (Za (Value.int IntKind.i64 (DT3.f0 (row (Int.toNat i))))) then (Prod.snd z).1 (Za (Value.int IntKind.i64 (DT3.f0 (row (Int.toNat i))))) else false then false else (bif !(Prod.snd (Prod.snd z)).1 (Za (Value.int IntKind.i64 (DT3.f0 (row (Int.toNat i))))) then true else (bif Prod.fst (G (bif (Prod.snd (Prod.snd z)).1 (Za (Value.int IntKind.i64 (DT3.f0 (row (Int.toNat i))))) then (Prod.snd (Prod.snd z)).2 (Za (Value.int IntKind.i64 (DT3.f0 (row (Int.toNat i))))) else (0:Int)) (fun j=>bif Zj (Value.int IntKind.i64 j) (Value.int IntKind.i64 (DT3.f0 (row (Int.toNat i)))) then true else z.1 (Za (Value.int IntKind.i64 j)),fun j=>bif Zj (Value.int IntKind.i64 j) (Value.int IntKind.i64 (DT3.f0 (row (Int.toNat i)))) then true else (Prod.snd z).1 (Za (Value.int IntKind.i64 j)),fun j=>(Prod.snd (Prod.snd z)).1 (Za (Value.int IntKind.i64 j)),fun j=>(Prod.snd (Prod.snd z)).2 (Za (Value.int IntKind.i64 j)))) then true else false)))) k (Yi G row w z0 k)
def JA (G:Int->S4->Bool×S4) (row:Nat->DT3) (w:Int) (z0:S4) (k:Nat) (z:S4):S4:=(fun (i:Int) (z:S4)=>(bif bif z.1 (Za (Value.int IntKind.i64 (DT3.f0 (row (Int.toNat i))))) then (Prod.snd z).1 (Za (Value.int IntKind.i64 (DT3.f0 (row (Int.toNat i))))) else false then ((z.1,z.2.1,z.2.2.1,z.2.2.2)) else (bif !(Prod.snd (Prod.snd z)).1 (Za (Value.int IntKind.i64 (DT3.f0 (row (Int.toNat i))))) then (((fun (j_:Int)=>bif j_==(DT3.f0 (row (Int.toNat i))) then true else z.1 (j_)),(fun (j_:Int)=>bif j_==(DT3.f0 (row (Int.toNat i))) then true else (Prod.snd z).1 (j_)),(fun (j_:Int)=>bif j_==(DT3.f0 (row (Int.toNat i))) then true else (Prod.snd (Prod.snd z)).1 (j_)),(fun (j_:Int)=>bif j_==(DT3.f0 (row (Int.toNat i))) then w else (Prod.snd (Prod.snd z)).2 (j_)))) else (bif Prod.fst (G (bif (Prod.snd (Prod.snd z)).1 (Za (Value.int IntKind.i64 (DT3.f0 (row (Int.toNat i))))) then (Prod.snd (Prod.snd z)).2 (Za (Value.int IntKind.i64 (DT3.f0 (row (Int.toNat i))))) else (0:Int)) (fun j=>bif Zj (Value.int IntKind.i64 j) (Value.int IntKind.i64 (DT3.f0 (row (Int.toNat i)))) then true else z.1 (Za (Value.int IntKind.i64 j)),fun j=>bif Zj (Value.int IntKind.i64 j) (Value.int IntKind.i64 (DT3.f0 (row (Int.toNat i)))) then true else (Prod.snd z).1 (Za (Value.int IntKind.i64 j)),fun j=>(Prod.snd (Prod.snd z)).1 (Za (Value.int IntKind.i64 j)),fun j=>(Prod.snd (Prod.snd z)).2 (Za (Value.int IntKind.i64 j)))) then (((fun (j_:Int)=>(Prod.snd (G (bif (Prod.snd (Prod.snd z)).1 (Za (Value.int IntKind.i64 (DT3.f0 (row (Int.toNat i))))) then (Prod.snd (Prod.snd z)).2 (Za (Value.int IntKind.i64 (DT3.f0 (row (Int.toNat i))))) else (0:Int)) (fun j=>bif Zj (Value.int IntKind.i64 j) (Value.int IntKind.i64 (DT3.f0 (row (Int.toNat i)))) then true else z.1 (Za (Value.int IntKind.i64 j)),fun j=>bif Zj (Value.int IntKind.i64 j) (Value.int IntKind.i64 (DT3.f0 (row (Int.toNat i)))) then true else (Prod.snd z).1 (Za (Value.int IntKind.i64 j)),fun j=>(Prod.snd (Prod.snd z)).1 (Za (Value.int IntKind.i64 j)),fun j=>(Prod.snd (Prod.snd z)).2 (Za (Value.int IntKind.i64 j))))).1 (j_)),(fun (j_:Int)=>(Prod.snd (Prod.snd (G (bif (Prod.snd (Prod.snd z)).1 (Za (Value.int IntKind.i64 (DT3.f0 (row (Int.toNat i))))) then (Prod.snd (Prod.snd z)).2 (Za (Value.int IntKind.i64 (DT3.f0 (row (Int.toNat i))))) else (0:Int)) (fun j=>bif Zj (Value.int IntKind.i64 j) (Value.int IntKind.i64 (DT3.f0 (row (Int.toNat i)))) then true else z.1 (Za (Value.int IntKind.i64 j)),fun j=>bif Zj (Value.int IntKind.i64 j) (Value.int IntKind.i64 (DT3.f0 (row (Int.toNat i)))) then true else (Prod.snd z).1 (Za (Value.int IntKind.i64 j)),fun j=>(Prod.snd (Prod.snd z)).1 (Za (Value.int IntKind.i64 j)),fun j=>(Prod.snd (Prod.snd z)).2 (Za (Value.int IntKind.i64 j)))))).1 (j_)),(fun (j_:Int)=>bif j_==(DT3.f0 (row (Int.toNat i))) then true else (Prod.snd (Prod.snd (Prod.snd (G (bif (Prod.snd (Prod.snd z)).1 (Za (Value.int IntKind.i64 (DT3.f0 (row (Int.toNat i))))) then (Prod.snd (Prod.snd z)).2 (Za (Value.int IntKind.i64 (DT3.f0 (row (Int.toNat i))))) else (0:Int)) (fun j=>bif Zj (Value.int IntKind.i64 j) (Value.int IntKind.i64 (DT3.f0 (row (Int.toNat i)))) then true else z.1 (Za (Value.int IntKind.i64 j)),fun j=>bif Zj (Value.int IntKind.i64 j) (Value.int IntKind.i64 (DT3.f0 (row (Int.toNat i)))) then true else (Prod.snd z).1 (Za (Value.int IntKind.i64 j)),fun j=>(Prod.snd (Prod.snd z)).1 (Za (Value.int IntKind.i64 j)),fun j=>(Prod.snd (Prod.snd z)).2 (Za (Value.int IntKind.i64 j))))))).1 (j_)),(fun (j_:Int)=>bif j_==(DT3.f0 (row (Int.toNat i))) then w else (Prod.snd (Prod.snd (Prod.snd (G (bif (Prod.snd (Prod.snd z)).1 (Za (Value.int IntKind.i64 (DT3.f0 (row (Int.toNat i))))) then (Prod.snd (Prod.snd z)).2 (Za (Value.int IntKind.i64 (DT3.f0 (row (Int.toNat i))))) else (0:Int)) (fun j=>bif Zj (Value.int IntKind.i64 j) (Value.int IntKind.i64 (DT3.f0 (row (Int.toNat i)))) then true else z.1 (Za (Value.int IntKind.i64 j)),fun j=>bif Zj (Value.int IntKind.i64 j) (Value.int IntKind.i64 (DT3.f0 (row (Int.toNat i)))) then true else (Prod.snd z).1 (Za (Value.int IntKind.i64 j)),fun j=>(Prod.snd (Prod.snd z)).1 (Za (Value.int IntKind.i64 j)),fun j=>(Prod.snd (Prod.snd z)).2 (Za (Value.int IntKind.i64 j))))))).2 (j_)))) else ((z.1,z.2.1,z.2.2.1,z.2.2.2)))))) k z
def gv_lp (m:Nat) (r:Nat->Zd) (G:Int->S4->Bool×S4) (Pr:Int->S4->Prop) (L:Nat) (row:Nat->DT3) (w:Int) (z0:S4):Lp:=⟨301,2,fun _ s=>match vwN 5 5 44 [0,1,2,3,4,7,15,16,17] [(0,.own),(1,.own),(2,.own),(3,.own),(4,.own)] s with
 | (true,(.cons (.int _ .i64 t0) (.cons (.mp 0) (.cons (.ptr true 1 0 0 0) (.cons (.ptr true 2 0 0 0) (.cons (.ptr true 3 0 0 0) (.cons (.bool _ t5) (.cons (.rsl _ 1 nt6 ft6) (.cons (.int _ .i64 t7) (.cons (.int _ .i64 t8) .nil))))))))),[.Ze (.int .i64) _ u0 _,.var (.cons (.rsl _ 1 nu10 fu10) .nil),.var (.cons (.mp 4) .nil),.var (.cons (.fn (.func 301) .nil (.cons (.ptr true 1 0 0 0) (.cons (.ptr true 2 0 0 0) (.cons (.ptr true 3 0 0 0) .nil)))) .nil),.Ze (.int .i64) _ u4 _])=>bif Nat.beq s.n 5 then .need (w = t0/\false = t5/\L = nt6/\(fun j=>Ym false (row j)) = ft6/\((L:Nat):Int) = t7/\0 = t8/\ZX .i64 (fun x=>(z0.1 (Za x),V.bool false (z0.2.1 (Za x)))) u0/\m = nu10/\(fun j=>QW false (r j)) = fu10/\ZX .i64 (fun x=>(z0.2.2.1 (Za x),V.int false .i64 (z0.2.2.2 (Za x)))) u4)
   (.node (Zp (YO G row w z0) L) (.leaf (.ret,Yg 5 44 [0,1,2,3,4,7,15,16,17] [(0,.own),(1,.own),(2,.own),(3,.own),(4,.own)] (.cons (V.int false IntKind.i64 w) (.cons (V.mp (0:Nat)) (.cons (V.ptr true (1:Nat) (0:Nat) (0:Nat) (0:Nat)) (.cons (V.ptr true (2:Nat) (0:Nat) (0:Nat) (0:Nat)) (.cons (V.ptr true (3:Nat) (0:Nat) (0:Nat) (0:Nat)) (.cons (V.bool true true) (.cons (V.rsl false (1:Nat) L fun jj=>V.cons (V.int false IntKind.i64 (DT3.f0 (row jj))) V.nil) (.cons (V.int false IntKind.i64 (L:Int)) (.cons .junk .nil))))))))) [.Ze (.int .i64) false (fun x=>((JA G row w z0 (Yn (YO G row w z0) L 0) (Yi G row w z0 (Yn (YO G row w z0) L 0))).1 (Za x),.bool false ((JA G row w z0 (Yn (YO G row w z0) L 0) (Yi G row w z0 (Yn (YO G row w z0) L 0))).2.1 (Za x)))) none,.var (.cons (.rsl false 1 m (fun j=>QW false (r j))) .nil),.var (.cons (.mp 4) .nil),.var (.cons (.fn (.func 301) .nil (.cons (.ptr true 1 0 0 0) (.cons (.ptr true 2 0 0 0) (.cons (.ptr true 3 0 0 0) .nil)))) .nil),.Ze (.int .i64) false (fun x=>((JA G row w z0 (Yn (YO G row w z0) L 0) (Yi G row w z0 (Yn (YO G row w z0) L 0))).2.2.1 (Za x),.int false .i64 ((JA G row w z0 (Yn (YO G row w z0) L 0) (Yi G row w z0 (Yn (YO G row w z0) L 0))).2.2.2 (Za x)))) none])) (.leaf (.exit 0,Yg 5 44 [0,1,2,3,4,7,15,16,17] [(0,.own),(1,.own),(2,.own),(3,.own),(4,.own)] (Gx m r G Pr L row w z0 ((L:Nat):Int) (Yi G row w z0 L)) (Gr m r G Pr L row w z0 ((L:Nat):Int) (Yi G row w z0 L))))) else .stuck
 | _=>.stuck⟩
theorem gv_lp_ok (m:Nat) (r:Nat->Zd) (G:Int->S4->Bool×S4) (Pr:Int->S4->Prop) (L:Nat) (row:Nat->DT3) (w:Int) (z0:S4) (hl:L<=1000) (hK:Xj P 301 (QZ m r G Pr)) (hN:∀ k:Nat,k < L->(∀ j,j < k->YO G row w z0 j = false)->(bif (Yi G row w z0 k).1 (row k).f0 then (Yi G row w z0 k).2.1 (row k).f0 else false) = false->(!(Yi G row w z0 k).2.2.1 (row k).f0) = false->Pr (Jr (Yi G row w z0 k) (row k).f0) (Ww (Yi G row w z0 k) (row k).f0)):(gv_lp m r G Pr L row w z0).Ok P:=by
 refine KM (by kernel_rfl) fun hin B s Q hq=>?_
 dsimp only [gv_lp] at hq hin ⊢
 split at hq
 ·rename_i q1 t0 q2 t5 q3 nt6 ft6 q4 t7 q5 t8 q6 u0 q7 q8 nu10 fu10 q9 u4 q10 heq
  cases hsn:Nat.beq s.n 5
  ·rw [hsn] at hq; exact hq.elim
  ·rw [hsn] at hq
   obtain ⟨⟨rfl,rfl,rfl,rfl,rfl,rfl,hmu0,rfl,rfl,hmu4⟩,hq⟩:=hq
   have hsame:WE 5 5 44 [0,1,2,3,4,7,15,16,17] [(0,.own),(1,.own),(2,.own),(3,.own),(4,.own)] s (Gx m r G Pr L row w z0 0 z0) (Gr m r G Pr L row w z0 0 z0):=by
    refine ⟨by rw [heq],by rw [heq]; exact Le.soft rfl,by rw [heq]; exact ⟨Y6 fun a=>⟨(hmu0 a).1.symm,Le.soft (hmu0 a).2.symm⟩,LeK.var (Le.soft rfl),LeK.var (Le.soft rfl),LeK.var (Le.soft rfl),Y6 fun a=>⟨(hmu4 a).1.symm,Le.soft (hmu4 a).2.symm⟩,trivial⟩⟩
   refine ZfQ (k:=400) (f:=301) ((Yh hm hn (l:=[]) trivial).JU (l:=[⟨301,QZ m r G Pr⟩]) ⟨hK,trivial⟩) rfl hin L (fun i=>Gx m r G Pr L row w z0 i (Yi G row w z0 i)) (fun i=>Gr m r G Pr L row w z0 i (Yi G row w z0 i)) (fun i=>∀ k,k < i->YO G row w z0 k = false) Q (fun i=>gv_round B m r G Pr L row w z0 i (Yi G row w z0 i)) (fun i hi hg=>?_) (Nat.eq_of_beq_eq_true hsn) (fun k hk=>absurd hk (Nat.not_lt_zero k)) hsame
   refine And.symm ⟨fun hc=>?_,fun hc=>?_⟩
   ·have hge:¬ ((i:Int) < ((L:Nat):Int)):=fun h=>by rw [decide_eq_true h] at hc; cases hc
    have e:i = L:=by omega
    subst e
    exact ⟨rfl,_,_,Le.refl _,by exact ⟨LeK.refl _,LeK.refl _,LeK.refl _,LeK.refl _,LeK.refl _,trivial⟩,hq.2 (VP hg)⟩
   ·have hlt:(i:Int) < ((L:Nat):Int):=by
     apply Classical.byContradiction; intro h; rw [decide_eq_false h] at hc; cases hc
    refine ⟨?need0,?_⟩
    case need0=>
     clear hq hin
     repeat' (first | exact rfl | exact fun _=>⟨rfl,rfl⟩ | apply And.intro | intro _)
     all_goals (try simp only [decide_eq_true_eq,decide_eq_false_iff_not,Bool.not_eq_true',Bool.not_eq_false'] at *)
     all_goals (try simp (disch:=omega) only [IntWalk.i64_in])
     all_goals (first | omega | exact hN _ (by omega) hg hb0 hb1)
    refine ⟨fun hb0=>?_,fun hb0=>?_⟩
    ·have hz:Yi G row w z0 (i + 1) = (fun (i:Int) (z:S4)=>(((fun (j_:Int)=>z.1 (j_)),(fun (j_:Int)=>(Prod.snd z).1 (j_)),(fun (j_:Int)=>(Prod.snd (Prod.snd z)).1 (j_)),(fun (j_:Int)=>(Prod.snd (Prod.snd z)).2 (j_))))) ((i:Nat):Int) (Yi G row w z0 i):=(cT hb0 rfl)
     rw [IntWalk.i64_in ((i:Int) + 1) ⟨by omega,by omega⟩]
     exact ⟨rfl,by omega,Zfr hg (show YO G row w z0 i = false from (cT hb0 rfl)),(by show Le _ _ (Gx m r G Pr L row w z0 ((i + 1:Nat):Int) (Yi G row w z0 (i + 1))); rw [hz]; exact Le.soft rfl),by show Xm _ _ (Gr m r G Pr L row w z0 ((i + 1:Nat):Int) (Yi G row w z0 (i + 1))); rw [hz]; exact ⟨Y6 fun a=>⟨rfl,Le.soft rfl⟩,LeK.refl _,LeK.refl _,LeK.refl _,Y6 fun a=>⟨rfl,Le.soft rfl⟩,trivial⟩⟩
    ·refine ⟨fun hb1=>?_,fun hb1=>?_⟩
     ·have hb:YO G row w z0 i = true:=(cF hb0 (cT hb1 rfl))
      have hf:=Zfn (f:=YO G row w z0) (n:=L) (by omega) hg hb
      have hq1:=hq.1 (Zcx (k:=i) (by omega) hb)
      try rw [hf] at hq1
      have he:JA G row w z0 i (Yi G row w z0 i) = (fun (i:Int) (z:S4)=>(((fun (j_:Int)=>bif j_==(DT3.f0 (row (Int.toNat i))) then true else z.1 (j_)),(fun (j_:Int)=>bif j_==(DT3.f0 (row (Int.toNat i))) then true else (Prod.snd z).1 (j_)),(fun (j_:Int)=>bif j_==(DT3.f0 (row (Int.toNat i))) then true else (Prod.snd (Prod.snd z)).1 (j_)),(fun (j_:Int)=>bif j_==(DT3.f0 (row (Int.toNat i))) then w else (Prod.snd (Prod.snd z)).2 (j_))))) ((i:Nat):Int) (Yi G row w z0 i):=(cF hb0 (cT hb1 rfl))
      rw [he] at hq1
      exact ⟨rfl,_,_,by exact Le.cons (Le.refl _) (Le.cons (Le.refl _) (Le.cons (Le.refl _) (Le.cons (Le.refl _) (Le.cons (Le.refl _) (Le.cons (Le.refl _) (Le.cons (Le.refl _) (Le.cons (Le.refl _) (Le.cons (Le.junk _ rfl) (Le.refl _))))))))),by exact ⟨Y6 fun a=>⟨rfl,Le.soft rfl⟩,LeK.refl _,LeK.refl _,LeK.refl _,Y6 fun a=>⟨rfl,Le.soft rfl⟩,trivial⟩,hq1⟩
     ·refine ⟨?need1,?_⟩
      case need1=>
       clear hq hin
       repeat' (first | exact rfl | exact fun _=>⟨rfl,rfl⟩ | apply And.intro | intro _)
       all_goals (try simp only [decide_eq_true_eq,decide_eq_false_iff_not,Bool.not_eq_true',Bool.not_eq_false'] at *)
       all_goals (try simp (disch:=omega) only [IntWalk.i64_in])
       all_goals (first | omega | exact hN _ (by omega) hg hb0 hb1)
      refine ⟨fun hb2=>?_,fun hb2=>?_⟩
      ·have hb:YO G row w z0 i = true:=(cF hb0 (cF hb1 (cT hb2 rfl)))
       have hf:=Zfn (f:=YO G row w z0) (n:=L) (by omega) hg hb
       have hq1:=hq.1 (Zcx (k:=i) (by omega) hb)
       try rw [hf] at hq1
       have he:JA G row w z0 i (Yi G row w z0 i) = (fun (i:Int) (z:S4)=>(((fun (j_:Int)=>(Prod.snd (G (bif (Prod.snd (Prod.snd z)).1 (Za (Value.int IntKind.i64 (DT3.f0 (row (Int.toNat i))))) then (Prod.snd (Prod.snd z)).2 (Za (Value.int IntKind.i64 (DT3.f0 (row (Int.toNat i))))) else (0:Int)) (fun j=>bif Zj (Value.int IntKind.i64 j) (Value.int IntKind.i64 (DT3.f0 (row (Int.toNat i)))) then true else z.1 (Za (Value.int IntKind.i64 j)),fun j=>bif Zj (Value.int IntKind.i64 j) (Value.int IntKind.i64 (DT3.f0 (row (Int.toNat i)))) then true else (Prod.snd z).1 (Za (Value.int IntKind.i64 j)),fun j=>(Prod.snd (Prod.snd z)).1 (Za (Value.int IntKind.i64 j)),fun j=>(Prod.snd (Prod.snd z)).2 (Za (Value.int IntKind.i64 j))))).1 (j_)),(fun (j_:Int)=>(Prod.snd (Prod.snd (G (bif (Prod.snd (Prod.snd z)).1 (Za (Value.int IntKind.i64 (DT3.f0 (row (Int.toNat i))))) then (Prod.snd (Prod.snd z)).2 (Za (Value.int IntKind.i64 (DT3.f0 (row (Int.toNat i))))) else (0:Int)) (fun j=>bif Zj (Value.int IntKind.i64 j) (Value.int IntKind.i64 (DT3.f0 (row (Int.toNat i)))) then true else z.1 (Za (Value.int IntKind.i64 j)),fun j=>bif Zj (Value.int IntKind.i64 j) (Value.int IntKind.i64 (DT3.f0 (row (Int.toNat i)))) then true else (Prod.snd z).1 (Za (Value.int IntKind.i64 j)),fun j=>(Prod.snd (Prod.snd z)).1 (Za (Value.int IntKind.i64 j)),fun j=>(Prod.snd (Prod.snd z)).2 (Za (Value.int IntKind.i64 j)))))).1 (j_)),(fun (j_:Int)=>bif j_==(DT3.f0 (row (Int.toNat i))) then true else (Prod.snd (Prod.snd (Prod.snd (G (bif (Prod.snd (Prod.snd z)).1 (Za (Value.int IntKind.i64 (DT3.f0 (row (Int.toNat i))))) then (Prod.snd (Prod.snd z)).2 (Za (Value.int IntKind.i64 (DT3.f0 (row (Int.toNat i))))) else (0:Int)) (fun j=>bif Zj (Value.int IntKind.i64 j) (Value.int IntKind.i64 (DT3.f0 (row (Int.toNat i)))) then true else z.1 (Za (Value.int IntKind.i64 j)),fun j=>bif Zj (Value.int IntKind.i64 j) (Value.int IntKind.i64 (DT3.f0 (row (Int.toNat i)))) then true else (Prod.snd z).1 (Za (Value.int IntKind.i64 j)),fun j=>(Prod.snd (Prod.snd z)).1 (Za (Value.int IntKind.i64 j)),fun j=>(Prod.snd (Prod.snd z)).2 (Za (Value.int IntKind.i64 j))))))).1 (j_)),(fun (j_:Int)=>bif j_==(DT3.f0 (row (Int.toNat i))) then w else (Prod.snd (Prod.snd (Prod.snd (G (bif (Prod.snd (Prod.snd z)).1 (Za (Value.int IntKind.i64 (DT3.f0 (row (Int.toNat i))))) then (Prod.snd (Prod.snd z)).2 (Za (Value.int IntKind.i64 (DT3.f0 (row (Int.toNat i))))) else (0:Int)) (fun j=>bif Zj (Value.int IntKind.i64 j) (Value.int IntKind.i64 (DT3.f0 (row (Int.toNat i)))) then true else z.1 (Za (Value.int IntKind.i64 j)),fun j=>bif Zj (Value.int IntKind.i64 j) (Value.int IntKind.i64 (DT3.f0 (row (Int.toNat i)))) then true else (Prod.snd z).1 (Za (Value.int IntKind.i64 j)),fun j=>(Prod.snd (Prod.snd z)).1 (Za (Value.int IntKind.i64 j)),fun j=>(Prod.snd (Prod.snd z)).2 (Za (Value.int IntKind.i64 j))))))).2 (j_))))) ((i:Nat):Int) (Yi G row w z0 i):=(cF hb0 (cF hb1 (cT hb2 rfl)))
       rw [he] at hq1
       exact ⟨rfl,_,_,by exact Le.cons (Le.refl _) (Le.cons (Le.refl _) (Le.cons (Le.refl _) (Le.cons (Le.refl _) (Le.cons (Le.refl _) (Le.cons (Le.refl _) (Le.cons (Le.refl _) (Le.cons (Le.refl _) (Le.cons (Le.junk _ rfl) (Le.refl _))))))))),by exact ⟨Y6 fun a=>⟨rfl,Le.soft rfl⟩,LeK.refl _,LeK.refl _,LeK.refl _,Y6 fun a=>⟨rfl,Le.soft rfl⟩,trivial⟩,hq1⟩
      ·have hz:Yi G row w z0 (i + 1) = (fun (i:Int) (z:S4)=>(((fun (j_:Int)=>(Prod.snd (G (bif (Prod.snd (Prod.snd z)).1 (Za (Value.int IntKind.i64 (DT3.f0 (row (Int.toNat i))))) then (Prod.snd (Prod.snd z)).2 (Za (Value.int IntKind.i64 (DT3.f0 (row (Int.toNat i))))) else (0:Int)) (fun j=>bif Zj (Value.int IntKind.i64 j) (Value.int IntKind.i64 (DT3.f0 (row (Int.toNat i)))) then true else z.1 (Za (Value.int IntKind.i64 j)),fun j=>bif Zj (Value.int IntKind.i64 j) (Value.int IntKind.i64 (DT3.f0 (row (Int.toNat i)))) then true else (Prod.snd z).1 (Za (Value.int IntKind.i64 j)),fun j=>(Prod.snd (Prod.snd z)).1 (Za (Value.int IntKind.i64 j)),fun j=>(Prod.snd (Prod.snd z)).2 (Za (Value.int IntKind.i64 j))))).1 (j_)),(fun (j_:Int)=>(Prod.snd (Prod.snd (G (bif (Prod.snd (Prod.snd z)).1 (Za (Value.int IntKind.i64 (DT3.f0 (row (Int.toNat i))))) then (Prod.snd (Prod.snd z)).2 (Za (Value.int IntKind.i64 (DT3.f0 (row (Int.toNat i))))) else (0:Int)) (fun j=>bif Zj (Value.int IntKind.i64 j) (Value.int IntKind.i64 (DT3.f0 (row (Int.toNat i)))) then true else z.1 (Za (Value.int IntKind.i64 j)),fun j=>bif Zj (Value.int IntKind.i64 j) (Value.int IntKind.i64 (DT3.f0 (row (Int.toNat i)))) then true else (Prod.snd z).1 (Za (Value.int IntKind.i64 j)),fun j=>(Prod.snd (Prod.snd z)).1 (Za (Value.int IntKind.i64 j)),fun j=>(Prod.snd (Prod.snd z)).2 (Za (Value.int IntKind.i64 j)))))).1 (j_)),(fun (j_:Int)=>(Prod.snd (Prod.snd (Prod.snd (G (bif (Prod.snd (Prod.snd z)).1 (Za (Value.int IntKind.i64 (DT3.f0 (row (Int.toNat i))))) then (Prod.snd (Prod.snd z)).2 (Za (Value.int IntKind.i64 (DT3.f0 (row (Int.toNat i))))) else (0:Int)) (fun j=>bif Zj (Value.int IntKind.i64 j) (Value.int IntKind.i64 (DT3.f0 (row (Int.toNat i)))) then true else z.1 (Za (Value.int IntKind.i64 j)),fun j=>bif Zj (Value.int IntKind.i64 j) (Value.int IntKind.i64 (DT3.f0 (row (Int.toNat i)))) then true else (Prod.snd z).1 (Za (Value.int IntKind.i64 j)),fun j=>(Prod.snd (Prod.snd z)).1 (Za (Value.int IntKind.i64 j)),fun j=>(Prod.snd (Prod.snd z)).2 (Za (Value.int IntKind.i64 j))))))).1 (j_)),(fun (j_:Int)=>(Prod.snd (Prod.snd (Prod.snd (G (bif (Prod.snd (Prod.snd z)).1 (Za (Value.int IntKind.i64 (DT3.f0 (row (Int.toNat i))))) then (Prod.snd (Prod.snd z)).2 (Za (Value.int IntKind.i64 (DT3.f0 (row (Int.toNat i))))) else (0:Int)) (fun j=>bif Zj (Value.int IntKind.i64 j) (Value.int IntKind.i64 (DT3.f0 (row (Int.toNat i)))) then true else z.1 (Za (Value.int IntKind.i64 j)),fun j=>bif Zj (Value.int IntKind.i64 j) (Value.int IntKind.i64 (DT3.f0 (row (Int.toNat i)))) then true else (Prod.snd z).1 (Za (Value.int IntKind.i64 j)),fun j=>(Prod.snd (Prod.snd z)).1 (Za (Value.int IntKind.i64 j)),fun j=>(Prod.snd (Prod.snd z)).2 (Za (Value.int IntKind.i64 j))))))).2 (j_))))) ((i:Nat):Int) (Yi G row w z0 i):=(cF hb0 (cF hb1 (cF hb2 rfl)))
       rw [IntWalk.i64_in ((i:Int) + 1) ⟨by omega,by omega⟩]
       exact ⟨rfl,by omega,Zfr hg (show YO G row w z0 i = false from (cF hb0 (cF hb1 (cF hb2 rfl)))),(by show Le _ _ (Gx m r G Pr L row w z0 ((i + 1:Nat):Int) (Yi G row w z0 (i + 1))); rw [hz]; exact Le.soft rfl),by show Xm _ _ (Gr m r G Pr L row w z0 ((i + 1:Nat):Int) (Yi G row w z0 (i + 1))); rw [hz]; exact ⟨Y6 fun a=>⟨rfl,Le.soft rfl⟩,LeK.refl _,LeK.refl _,LeK.refl _,Y6 fun a=>⟨rfl,Le.soft rfl⟩,trivial⟩⟩
 ·exact hq.elim
def gvHN (G:Int->S4->Bool×S4) (Pr:Int->S4->Prop) (L:Nat) (row:Nat->DT3) (w:Int) (z0:S4):Prop:=∀ k:Nat,k < L->(∀ j,j < k->YO G row w z0 j = false)->(bif (Yi G row w z0 k).1 (row k).f0 then (Yi G row w z0 k).2.1 (row k).f0 else false) = false->(!(Yi G row w z0 k).2.2.1 (row k).f0) = false->Pr (Jr (Yi G row w z0 k) (row k).f0) (Ww (Yi G row w z0 k) (row k).f0)
def gv_in (m:Nat) (r:Nat->Zd) (G:Int->S4->Bool×S4) (Pr:Int->S4->Prop):Lp:=⟨301,2,fun _ s=>(s.tmp 0).QF .stuck fun w=>(s.tmp 15).UJ .stuck fun L fr=>(s.blk 0).onMap .stuck fun fa=>(s.blk 4).onMap .stuck fun fh=>
 .need (L<=1000/\gvHN G Pr L (fun j=>YF (fr j)) w (fun j=>(fa (.int .i64 j)).1,fun j=>(fa (.int .i64 j)).2.toBool,fun j=>(fh (.int .i64 j)).1,fun j=>(fh (.int .i64 j)).2.toInt)) ((gv_lp m r G Pr L (fun j=>YF (fr j)) w (fun j=>(fa (.int .i64 j)).1,fun j=>(fa (.int .i64 j)).2.toBool,fun j=>(fh (.int .i64 j)).1,fun j=>(fh (.int .i64 j)).2.toInt)).g _ s)⟩
theorem gv_in_ok {m:Nat} {r:Nat->Zd} {G:Int->S4->Bool×S4} {Pr:Int->S4->Prop} (hK:Xj P 301 (QZ m r G Pr)):(gv_in m r G Pr).Ok P:=by
 intro body hin hfr B s Q hq
 obtain ⟨w,hq⟩:=Ji hq
 obtain ⟨L,fr,hq⟩:=G9 hq
 obtain ⟨fa,hq⟩:=Ze8 hq
 obtain ⟨fh,hq⟩:=Ze8 hq
 exact gv_lp_ok _ _ _ _ _ _ _ _ hq.1.1 hK hq.1.2 body hin hfr B s Q hq.2
abbrev gvEnv (m:Nat) (r:Nat->Zd) (G:Int->S4->Bool×S4) (Pr:Int->S4->Prop):Env:={ P,Γ:=QE [],lp:=K9 [gv_in m r G Pr],mg:=true,nm:=fun g=>Nat.beq g 301 }
theorem anyTo_ex {f:Nat->Bool}:∀ {n:Nat},Zp f n = true->∃ k,k < n/\f k = true:=by
 intro n
 induction n with
 | zero=>intro h; cases h
 | succ n ih=>
  intro h
  have h':(Zp f n || f n) = true:=h
  rw [Bool.or_eq_true] at h'
  rcases h' with h' | h'
  ·obtain ⟨k,a,b⟩:=ih h'; exact ⟨k,by omega,b⟩
  ·exact ⟨n,by omega,h'⟩
theorem fstTo_in {f:Nat->Bool}:∀ {m k:Nat},(∃ j,k<=j/\j < k + m/\f j = true)->k<=Yn f m k/\Yn f m k < k + m/\f (Yn f m k) = true:=by
 intro m
 induction m with
 | zero=>intro k ⟨j,a,b,_⟩; omega
 | succ m ih=>
  intro k ⟨j,a,b,c⟩
  unfold Yn
  cases hk:f k with
  | true=>exact ⟨Nat.le_refl _,by show k < k + (m + 1); omega,hk⟩
  | false=>
   have hj:k ≠ j:=fun e=>by rw [e,c] at hk; cases hk
   obtain ⟨x,y,z⟩:=ih (k:=k + 1) ⟨j,by omega,by omega,c⟩
   exact ⟨by show k<=Yn f m (k + 1); omega,by show Yn f m (k + 1) < _; omega,z⟩
theorem fstTo_lt {f:Nat->Bool} {n:Nat} (h:Zp f n = true):Yn f n 0 < n:=by
 obtain ⟨k,a,b⟩:=anyTo_ex h
 have:=(fstTo_in (f:=f) (m:=n) (k:=0) ⟨k,Nat.zero_le _,by omega,b⟩).2.1
 omega
def Vj (z:S4) (c:Int):Bool:=bif z.1 c then z.2.1 c else false
def ZdD (z:S4) (c w:Int):S4:=(fun j=>z.1 j,fun j=>z.2.1 j,fun j=>bif j==c then true else z.2.2.1 j,fun j=>bif j==c then w else z.2.2.2 j)
theorem Zjx (G:Int->S4->Bool×S4) (row:Nat->DT3) (w:Int) (z0:S4) (k:Nat) (z:S4):ZfN G row w z0 k z =
  bif Vj z (row k).f0 then z else bif !z.2.2.1 (row k).f0 then z else bif (G (Jr z (row k).f0) (Ww z (row k).f0)).1 then z else (G (Jr z (row k).f0) (Ww z (row k).f0)).2:=by kernel_rfl
theorem gv_end_eq (G:Int->S4->Bool×S4) (row:Nat->DT3) (w:Int) (z0:S4) (k:Nat) (z:S4):JA G row w z0 k z =
  bif Vj z (row k).f0 then z else bif !z.2.2.1 (row k).f0 then ZdD (Ww z (row k).f0) (row k).f0 w else bif (G (Jr z (row k).f0) (Ww z (row k).f0)).1 then ZdD (G (Jr z (row k).f0) (Ww z (row k).f0)).2 (row k).f0 w else z:=by kernel_rfl
def Ki (r:Nat->Zd) (G:Int->S4->Bool×S4) (i:Int) (z:S4):Bool×S4:=
 bif Zp (YO G (r i.toNat).r0 i z) (r i.toNat).n0 then (true,JA G (r i.toNat).r0 i z (Yn (YO G (r i.toNat).r0 i z) (r i.toNat).n0 0) (Yi G (r i.toNat).r0 i z (Yn (YO G (r i.toNat).r0 i z) (r i.toNat).n0 0)))
 else (false,Yi G (r i.toNat).r0 i z (r i.toNat).n0)
def give (r:Nat->Zd):Nat->Int->S4->Bool×S4
 | 0=>fun _ z=>(false,z)
 | q + 1=>Ki r (give r q)
def QM (u:Int->Bool):Nat->Nat
 | 0=>0
 | n + 1=>QM u n + (bif u n then 1 else 0)
theorem Zb1 {u v:Int->Bool} (h:∀ c,u c = true->v c = true):∀ n,QM u n<=QM v n:=by
 intro n
 induction n with
 | zero=>exact Nat.le_refl _
 | succ n ih=>
  show QM u n + _<=QM v n + _
  cases hu:u n with
  | true=>rw [h _ hu]; simp only [cond_true]; omega
  | false=>simp only [cond_false]; omega
theorem cntTo_lt {u v:Int->Bool} (h:∀ c,u c = true->v c = true) {c:Int} (h1:u c = false) (h2:v c = true):∀ n:Nat,0<=c->c < n->QM u n < QM v n:=by
 intro n
 induction n with
 | zero=>intro a b; omega
 | succ n ih=>
  intro a b
  show QM u n + _ < QM v n + _
  by_cases e:c = n
  ·subst e; rw [h1,h2]; simp only [cond_true,cond_false]; have:=Zb1 h n; omega
  ·have:=ih a (by omega)
   cases hu:u n with
   | true=>rw [h _ hu]; simp only [cond_true]; omega
   | false=>simp only [cond_false]; omega
def Vl (m:Nat) (r:Nat->Zd):Prop:=∀ j,j < m->(r j).n0<=1000/\∀ k,k < (r j).n0->0<=((r j).r0 k).f0/\((r j).r0 k).f0 < 8
def HasOk (m:Nat) (z:S4):Prop:=∀ c,z.2.2.1 c = true->0<=z.2.2.2 c/\z.2.2.2 c < m
def YE (z:S4) (c:Int):Bool:=!Vj z c
def Pr (m q:Nat) (i:Int) (z:S4):Prop:=0<=i/\i < m/\HasOk m z/\QM (YE z) 8 < q
def Inv (m:Nat) (z z':S4):Prop:=HasOk m z'/\∀ c,YE z' c = true->YE z c = true
theorem ZbO {z:S4} {c d:Int} (h:YE (Ww z c) d = true):YE z d = true:=by
 unfold YE Vj Ww at *
 dsimp only at h
 cases he:(d==c) with
 | true=>rw [he] at h; cases h
 | false=>rw [he] at h; exact h
theorem ZjP {z:S4} {c:Int}:YE (Ww z c) c = false:=by
 unfold YE Vj Ww
 dsimp only
 rw [show (c==c) = true from by simp]; rfl
theorem Zhd {m:Nat} {z:S4} {c w:Int} (h:HasOk m z) (h1:0<=w) (h2:w < m):HasOk m (ZdD z c w):=by
 intro d hd
 unfold ZdD at *
 dsimp only at hd ⊢
 cases he:(d==c) with
 | true=>exact ⟨h1,h2⟩
 | false=>rw [he] at hd; exact h d hd
theorem pr_of {m q:Nat} {r:Nat->Zd} (hr:Vl m r) {i:Int} {z z':S4} (hp:Pr m (q + 1) i z) (hi:Inv m z z') {k:Nat} (hk:k < (r i.toNat).n0) (h1:Vj z' ((r i.toNat).r0 k).f0 = false) (h2:(!z'.2.2.1 ((r i.toNat).r0 k).f0) = false) :
  Pr m q (Jr z' ((r i.toNat).r0 k).f0) (Ww z' ((r i.toNat).r0 k).f0):=by
 obtain ⟨a,b,_,d⟩:=hp
 have hc:=(hr i.toNat (by omega)).2 k hk
 have hh:z'.2.2.1 ((r i.toNat).r0 k).f0 = true:=by
  cases e:z'.2.2.1 ((r i.toNat).r0 k).f0 with
  | true=>rfl
  | false=>rw [e] at h2; cases h2
 have ho:=hi.1 _ hh
 refine ⟨?_,?_,fun c hc'=>hi.1 c hc',?_⟩
 ·unfold Jr; rw [hh]; exact ho.1
 ·unfold Jr; rw [hh]; exact ho.2
 ·have h3:=cntTo_lt (u:=YE (Ww z' ((r i.toNat).r0 k).f0)) (v:=YE z') (fun c h=>ZbO h) ZjP (by unfold YE; rw [h1]; rfl) 8 hc.1 hc.2
  have h4:=Zb1 (u:=YE z') (v:=YE z) hi.2 8
  omega
theorem acc_inv {m q:Nat} {r:Nat->Zd} (hr:Vl m r) {G:Int->S4->Bool×S4} (hG:∀ i z,Pr m q i z->Inv m z (G i z).2) {i:Int} {z:S4} (hp:Pr m (q + 1) i z):∀ k,k<=(r i.toNat).n0->Inv m z (Yi G (r i.toNat).r0 i z k):=by
 intro k
 induction k with
 | zero=>intro _; exact ⟨hp.2.2.1,fun c h=>h⟩
 | succ k ih=>
  intro hk
  have hi:=ih (by omega)
  show Inv m z (ZfN G (r i.toNat).r0 i z k (Yi G (r i.toNat).r0 i z k))
  rw [Zjx]
  generalize Yi G (r i.toNat).r0 i z k = y at hi ⊢
  cases h1:Vj y ((r i.toNat).r0 k).f0 with
  | true=>exact hi
  | false=>
   cases h2:(!y.2.2.1 ((r i.toNat).r0 k).f0) with
   | true=>exact hi
   | false=>
    have hp':=pr_of hr hp hi (by omega) h1 h2
    have hg:=hG _ _ hp'
    cases h3:(G (Jr y ((r i.toNat).r0 k).f0) (Ww y ((r i.toNat).r0 k).f0)).1 with
    | true=>exact hi
    | false=>exact ⟨hg.1,fun c hc=>hi.2 c (ZbO (hg.2 c hc))⟩
theorem ZhX {m:Nat} {r:Nat->Zd} (hr:Vl m r):∀ q i z,Pr m q i z->Inv m z (give r q i z).2:=by
 intro q
 induction q with
 | zero=>intro i z h; exact absurd h.2.2.2 (by omega)
 | succ q ih=>
  intro i z hp
  show Inv m z (Ki r (give r q) i z).2
  have ha:=acc_inv hr ih hp
  unfold Ki
  cases hb:Zp (YO (give r q) (r i.toNat).r0 i z) (r i.toNat).n0 with
  | false=>exact ha _ (Nat.le_refl _)
  | true=>
   show Inv m z (JA (give r q) (r i.toNat).r0 i z (Yn (YO (give r q) (r i.toNat).r0 i z) (r i.toNat).n0 0) (Yi (give r q) (r i.toNat).r0 i z (Yn (YO (give r q) (r i.toNat).r0 i z) (r i.toNat).n0 0)))
   have hf:Yn (YO (give r q) (r i.toNat).r0 i z) (r i.toNat).n0 0 < (r i.toNat).n0:=fstTo_lt hb
   generalize Yn (YO (give r q) (r i.toNat).r0 i z) (r i.toNat).n0 0 = k at hf ⊢
   have hi:=ha k (by omega)
   rw [gv_end_eq]
   generalize Yi (give r q) (r i.toNat).r0 i z k = y at hi ⊢
   cases h1:Vj y ((r i.toNat).r0 k).f0 with
   | true=>exact hi
   | false=>
    cases h2:(!y.2.2.1 ((r i.toNat).r0 k).f0) with
    | true=>exact ⟨Zhd (z:=Ww y _) hi.1 hp.1 hp.2.1,fun c hc=>hi.2 c (ZbO hc)⟩
    | false=>
     have hp':=pr_of hr hp hi (by omega) h1 h2
     have hg:=ih _ _ hp'
     cases h3:(give r q (Jr y ((r i.toNat).r0 k).f0) (Ww y ((r i.toNat).r0 k).f0)).1 with
     | true=>exact ⟨Zhd hg.1 hp.1 hp.2.1,fun c hc=>hi.2 c (ZbO (hg.2 c hc))⟩
     | false=>exact hi
theorem gv_evH (m:Nat) (r:Nat->Zd) (G:Int->S4->Bool×S4) (Pq:Int->S4->Prop) (i:Int) (z:S4):evH (gvEnv m r G Pq) 400 301 (Zho i) (GK m r z) =
  .need (0<=i/\i < (m:Int)) (.need ((r i.toNat).n0<=1000/\gvHN G Pq (r i.toNat).n0 (r i.toNat).r0 i z)
   (.need (i = i/\false = false/\(r i.toNat).n0 = (r i.toNat).n0/\(fun j=>Ym false ((r i.toNat).r0 j)) = (fun j=>Ym false ((r i.toNat).r0 j))/\(((r i.toNat).n0:Nat):Int) = (((r i.toNat).n0:Nat):Int)/\(0:Int) = 0 /\
     ZX .i64 (fun x=>(z.1 (Za x),.bool false (z.2.1 (Za x)))) (fun x=>(z.1 (Za x),.bool false (z.2.1 (Za x))))/\m = m/\(fun j=>QW false (r j)) = (fun j=>QW false (r j)) /\
     ZX .i64 (fun x=>(z.2.2.1 (Za x),.int false .i64 (z.2.2.2 (Za x)))) (fun x=>(z.2.2.1 (Za x),.int false .i64 (z.2.2.2 (Za x)))))
    (.node (Zp (YO G (r i.toNat).r0 i z) (r i.toNat).n0)
     (.leaf (.bool true true,GK m r (JA G (r i.toNat).r0 i z (Yn (YO G (r i.toNat).r0 i z) (r i.toNat).n0 0) (Yi G (r i.toNat).r0 i z (Yn (YO G (r i.toNat).r0 i z) (r i.toNat).n0 0)))))
     (.leaf (.bool true false,GK m r (Yi G (r i.toNat).r0 i z (r i.toNat).n0)))))):=by kernel_rfl
theorem gvEnv_ok {m:Nat} {r:Nat->Zd} {G:Int->S4->Bool×S4} {Pq:Int->S4->Prop} (hK:Xj P 301 (QZ m r G Pq)):(gvEnv m r G Pq).Ok:=
 let e:=Zu hm hn (l:=[]) trivial (ls:=[gv_in m r G Pq]) ⟨gv_in_ok hK,trivial⟩ true
 ⟨e.mixed,e.named,e.sure,e.where_,e.fork,e.lp,e.hk⟩
theorem give_at {m:Nat} {r:Nat->Zd} {G:Int->S4->Bool×S4} {Pq:Int->S4->Prop} (hK:Xj P 301 (QZ m r G Pq)) {i:Int} {z:S4} (hi:0<=i/\i < (m:Int)) (hL:(r i.toNat).n0<=1000) (hN:gvHN G Pq (r i.toNat).n0 (r i.toNat).r0 i z) :
  Xb P 301 (Zho i) (GK m r z) (.leaf (.bool false (Ki r G i z).1,GK m r (Ki r G i z).2)):=by
 refine hk_at (gvEnv_ok hK) 400 fun Q hQ=>?_
 rw [gv_evH]
 refine ⟨hi,⟨hL,hN⟩,⟨rfl,rfl,rfl,rfl,rfl,rfl,fun _=>⟨rfl,rfl⟩,rfl,rfl,fun _=>⟨rfl,rfl⟩⟩,fun h=>?_,fun h=>?_⟩
 ·have e:Ki r G i z = (true,JA G (r i.toNat).r0 i z (Yn (YO G (r i.toNat).r0 i z) (r i.toNat).n0 0) (Yi G (r i.toNat).r0 i z (Yn (YO G (r i.toNat).r0 i z) (r i.toNat).n0 0))):=by unfold Ki; rw [h]; rfl
  rw [e] at hQ
  exact ⟨_,hQ,rfl,rfl⟩
 ·have e:Ki r G i z = (false,Yi G (r i.toNat).r0 i z (r i.toNat).n0):=by unfold Ki; rw [h]; rfl
  rw [e] at hQ
  exact ⟨_,hQ,rfl,rfl⟩
theorem give_ok {m:Nat} {r:Nat->Zd} (hr:Vl m r):∀ q,Xj P 301 (QZ m r (give r q) (Pr m q)):=by
 intro q
 induction q with
 | zero=>
  intro args bl T hT
  unfold QZ at hT
  split at hT
  ·injection hT with hT
   subst hT
   intro base mm F w xs Q KK h1 h2 hq
   exact absurd hq.1.2.2.2.2.2.2.2 (by omega)
  ·cases hT
 | succ q ih=>
  intro args bl T hT
  unfold QZ at hT
  split at hT
  ·rename_i i q1 fa q2 m' fr q3 fh q4
   injection hT with hT
   subst hT
   intro base mm F w xs Q KK h1 h2 hq hk
   obtain ⟨⟨rfl,rfl,hA,hH,hp⟩,hq⟩:=hq
   refine Xb.le (bl:=[.Ze (.int .i64) q1 fa q2,rowsB m r,.var (.cons (.mp 4) .nil),capB,.Ze (.int .i64) q3 fh q4]) (give_at (r:=r) (i:=i) (z:=(fun j=>(fa (.int .i64 j)).1,fun j=>(fa (.int .i64 j)).2.toBool,fun j=>(fh (.int .i64 j)).1,fun j=>(fh (.int .i64 j)).2.toInt)) ih ⟨hp.1,hp.2.1⟩ (hr _ (by have:=hp.1; have:=hp.2.1; omega)).1 (fun k hk hg h3 h4=>pr_of hr hp (acc_inv hr (ZhX hr q) hp k (by omega)) hk h3 h4)) rfl (fun b=>?_) base mm F w xs Q KK h1 h2 hq hk
   match b with
   | 0=>exact Y6 fun a=>⟨rfl,Le.soft (hA a).2.symm⟩
   | 1=>exact LeK.refl _
   | 2=>exact LeK.refl _
   | 3=>exact LeK.refl _
   | 4=>exact Y6 fun a=>⟨rfl,Le.soft (hH a).2.symm⟩
   | _ + 5=>exact LeK.refl _
  ·cases hT
abbrev gm0_ts (an:Nat) (a:Nat->Zd) (G:Int->S4->Bool×S4) (Pq:Int->S4->Prop) (i:Int) (z:(Int->Bool)×(Int->Int)):V:=(.cons (.bool true false) (.cons (.ptr true 3 0 0 0) (.cons (.int false .i64 ((an:Nat):Int)) (.cons (.int false .i64 i) .nil))))
abbrev gm0_ys (an:Nat) (a:Nat->Zd) (G:Int->S4->Bool×S4) (Pq:Int->S4->Prop) (i:Int) (z:(Int->Bool)×(Int->Int)):List Blk:=[.var (.cons (.rsl false 1 an (fun j=>QW false (a j))) .nil),.Ze (.int .i64) false (fun x=>(z.1 (Za x),.int false .i64 (z.2 (Za x)))) none,.var (.cons (.mp 1) .nil),.var (.cons (.fn (.func 301) .nil (.cons (.ptr true 0 0 0 0) (.cons (.ptr true 2 0 0 0) (.cons (.ptr true 3 0 0 0) .nil)))) .nil)]
def gm0_R (an:Nat) (a:Nat->Zd) (G:Int->S4->Bool×S4) (Pq:Int->S4->Prop) (i:Int) (z:(Int->Bool)×(Int->Int)):Tree Rd:=
 let q1:=(G i (fun j=>false,fun j=>false,fun j=>z.1 j,fun j=>z.2 j))
 let q0:=[Blk.var (V.cons (V.rsl false 1 an fun j=>V.cons (V.rsl false 1 (Zd.n0 (a j)) fun j_1=>ci ((a j).2 j_1).f0 V.nil) V.nil) V.nil),Blk.Ze (MK.int .i64) false (fun k=>((Prod.snd (Prod.snd (Prod.snd q1))).1 (Za k),vi ((Prod.snd (Prod.snd (Prod.snd q1))).2 (Za k)))) none,Blk.var (V.cons (V.mp 1) V.nil),Blk.var (V.cons (V.fn (Fn.func (301:FuncId)) V.nil (V.cons (pt 0) (V.cons (pt 2) (V.cons (pt 3) V.nil)))) V.nil)]
 Tree.need (an = an/\((fun j=>V.cons (V.rsl false 1 (Zd.n0 (a j)) fun j_1=>ci ((a j).2 j_1).f0 V.nil) V.nil) = fun j=>V.cons (V.rsl false 1 (Zd.n0 (a j)) fun j_1=>ci ((a j).2 j_1).f0 V.nil) V.nil)/\(ZX .i64 (fun x=>(false,V.bool false false)) fun k=>(false,V.bool true false))/\(ZX .i64 (fun x=>(z.1 (Za x),vi (z.2 (Za x)))) fun k=>(z.1 (Za k),vi (z.2 (Za k))))/\Pq i (fun j=>false,fun j=>false,fun j=>z.1 j,fun j=>z.2 j)) (Tree.node (bif bif !Prod.fst q1 then true else false then true else false) (Tree.leaf (Ex.ret,true,V.cons (V.bool true false) (V.cons (pt 3) (ci (an:Int) (ci i V.nil))),q0)) (Tree.leaf (Ex.normal,true,V.cons (V.bool true false) (V.cons (pt 3) (ci (an:Int) (ci (IntKind.wrap .i64 (i + (1:Int))) V.nil))),q0)))
theorem gm0_round (an:Nat) (a:Nat->Zd) (G:Int->S4->Bool×S4) (Pq:Int->S4->Prop):Yp P { Zn P [] [] true with hk:=WR [⟨301,QZ an a G Pq⟩] } 253 5 4 4 19 [2,4,9,10] [(0,.own),(1,.own),(2,.own),(3,.own)] [] (gm0_ts an a G Pq) (gm0_ys an a G Pq) (fun i=>(bif decide (i < (an:Int)) then false else true)) (.exit 0) (gm0_R an a G Pq):=fun B i z=>by kernel_rfl
def Zbh (G:Int->S4->Bool×S4) (k:Nat) (z:(Int->Bool)×(Int->Int)):(Int->Bool)×(Int->Int):=(fun (i:Int) (z:(Int->Bool)×(Int->Int))=>(bif bif bif !Prod.fst (G i (fun j=>false,fun j=>false,fun j=>z.1 j,fun j=>z.2 j)) then true else false then true else false then ((z.1,z.2)) else (((fun (j_:Int)=>(Prod.snd (Prod.snd (Prod.snd (G i (fun j=>false,fun j=>false,fun j=>z.1 j,fun j=>z.2 j))))).1 (j_)),(fun (j_:Int)=>(Prod.snd (Prod.snd (Prod.snd (G i (fun j=>false,fun j=>false,fun j=>z.1 j,fun j=>z.2 j))))).2 (j_)))))) k z
def Qy (G:Int->S4->Bool×S4) (k:Nat):(Int->Bool)×(Int->Int):=ZI ((fun _=>false),(fun _=>0)) (Zbh G) k
def ZeF (G:Int->S4->Bool×S4) (k:Nat):Bool:=(fun (i:Int) (z:(Int->Bool)×(Int->Int))=>(bif bif bif !Prod.fst (G i (fun j=>false,fun j=>false,fun j=>z.1 j,fun j=>z.2 j)) then true else false then true else false then true else false)) k (Qy G k)
abbrev gm0_ets (an:Nat) (a:Nat->Zd) (G:Int->S4->Bool×S4) (Pq:Int->S4->Prop) (i:Int) (z:(Int->Bool)×(Int->Int)):V:=(.cons (V.bool true false) (.cons (V.ptr true 3 0 0 0) (.cons (V.int false .i64 (an:Int)) (.cons .junk .nil))))
abbrev gm0_eys (an:Nat) (a:Nat->Zd) (G:Int->S4->Bool×S4) (Pq:Int->S4->Prop) (i:Int) (z:(Int->Bool)×(Int->Int)):List Blk:=[.var (.cons (.rsl false 1 an (fun j=>QW false (a j))) .nil),.any,.var (.cons (.mp 1) .nil),.var (.cons (.fn (.func 301) .nil (.cons (.ptr true 0 0 0 0) (.cons (.ptr true 2 0 0 0) (.cons (.ptr true 3 0 0 0) .nil)))) .nil)]
def gm0_lp (an:Nat) (a:Nat->Zd) (G:Int->S4->Bool×S4) (Pq:Int->S4->Prop):Lp:=lpL 253 5 4 4 19 [2,4,9,10] [(0,.own),(1,.own),(2,.own),(3,.own)] [] (gm0_ts an a G Pq) (gm0_ys an a G Pq) (.exit 0) .ret ((fun _=>false),(fun _=>0)) (Qy G) (ZeF G) (an) (gm0_ets an a G Pq) (gm0_eys an a G Pq)
theorem gm0_lp_ok (an:Nat) (a:Nat->Zd) (G:Int->S4->Bool×S4) (Pq:Int->S4->Prop) (hl:an<=1000) (hK:Xj P 301 (QZ an a G Pq)) (hN:∀ k:Nat,k < an->Pq k ((fun (_:Int)=>false),(fun (_:Int)=>false),(fun j=>(Qy G k).1 j),(fun j=>(Qy G k).2 j))):(gm0_lp an a G Pq).Ok P:=by
 refine Y4 ((Zu hm hn (l:=[]) trivial (ls:=[]) trivial true).JU (l:=[⟨301,QZ an a G Pq⟩]) ⟨hK,trivial⟩) rfl (by kernel_rfl) (gm0_round an a G Pq) exN YB (fun _=>rfl) (rd:=(fun _ t y=>((fun j=>(y.getD 1 .none).hasK .i64 j),(fun j=>(y.getD 1 .none).getI .i64 j)))) (fun i z=>(cC rfl rfl)) (fun i=>(cC rfl rfl)) rfl (fun i hlt hg=>?_) (fun i z hi=>?_)
 ·have hltI:(i:Int) < ((an:Nat):Int):=by omega
  refine ⟨?_,⟨fun hb0=>trivial,fun hb0=>trivial⟩⟩
  all_goals (repeat' (first | exact rfl | exact fun _=>⟨rfl,rfl⟩ | apply And.intro | intro _))
  all_goals (try simp only [decide_eq_true_eq,decide_eq_false_iff_not,Bool.not_eq_true',Bool.not_eq_false'] at *)
  all_goals (try simp (disch:=omega) only [IntWalk.i64_in])
  all_goals (first | omega | exact hN i (by omega))
 ·have hw:=(IntWalk.i64_in ((i:Int) + 1) ⟨by omega,by omega⟩)
  refine ⟨?_,?_⟩
  all_goals (first | exact ⟨rfl,YD (ts:=gm0_ts an a G Pq) hw rfl,⟨LeK.refl _,Y6 fun a=>⟨rfl,Le.soft rfl⟩,LeK.refl _,LeK.refl _,trivial⟩⟩ | exact ⟨rfl,rfl,(by repeat' (first | exact Le.refl _ | exact Le.junk _ rfl | apply Le.cons)),⟨LeK.refl _,LeK.any _,LeK.refl _,LeK.refl _,trivial⟩⟩)
def Ws (r:Nat->Zd):Int->S4->Bool×S4:=give r 9
def Q7 (z:(Int->Bool)×(Int->Int)):S4:=(fun _=>false,fun _=>false,fun j=>z.1 j,fun j=>z.2 j)
theorem Zku (G:Int->S4->Bool×S4) (k:Nat) (z:(Int->Bool)×(Int->Int)):Zbh G k z = bif !(G k (Q7 z)).1 then z else ((G k (Q7 z)).2.2.2.1,(G k (Q7 z)).2.2.2.2):=by
 show (bif bif bif !(G k (Q7 z)).1 then true else false then true else false then z else ((G k (Q7 z)).2.2.2.1,(G k (Q7 z)).2.2.2.2)) = _
 cases (G k (Q7 z)).1 <;> rfl
theorem gm_pr {m:Nat} {r:Nat->Zd} (hr:Vl m r):∀ k:Nat,k<=m->∀ c,(Qy (Ws r) k).1 c = true->0<=(Qy (Ws r) k).2 c/\(Qy (Ws r) k).2 c < m:=by
 intro k
 induction k with
 | zero=>intro _ c h; cases h
 | succ k ih=>
  intro hk
  show ∀ c,(Zbh (Ws r) k (Qy (Ws r) k)).1 c = true->0<=(Zbh (Ws r) k (Qy (Ws r) k)).2 c/\(Zbh (Ws r) k (Qy (Ws r) k)).2 c < m
  rw [Zku]
  have hi:=ih (by omega)
  generalize Qy (Ws r) k = y at hi ⊢
  cases h1:(!(Ws r k (Q7 y)).1) with
  | true=>exact hi
  | false=>
   have hp:Pr m 9 k (Q7 y):=⟨by omega,by omega,hi,by
    have:=Zb1 (u:=YE (Q7 y)) (v:=fun _=>true) (fun _ _=>rfl) 8
    have e:QM (fun _=>true) 8 = 8:=rfl
    omega⟩
   exact (ZhX hr 9 _ _ hp).1
theorem gm_hN {m:Nat} {r:Nat->Zd} (hr:Vl m r) (k:Nat) (hk:k < m):Pr m 9 k (Q7 (Qy (Ws r) k)):=
 ⟨by omega,by omega,gm_pr hr k (by omega),by
  have:=Zb1 (u:=YE (Q7 (Qy (Ws r) k))) (v:=fun _=>true) (fun _ _=>rfl) 8
  have e:QM (fun _=>true) 8 = 8:=rfl
  omega⟩
abbrev gm_lp (m:Nat) (r:Nat->Zd):Lp:=gm0_lp m r (Ws r) (Pr m 9)
theorem gm_lp_ok (m:Nat) (r:Nat->Zd) (hl:m<=1000) (hr:Vl m r):(gm_lp m r).Ok P:=gm0_lp_ok m r (Ws r) (Pr m 9) hl (give_ok hr 9) (fun k hk=>gm_hN hr k hk)
def gMatch_T (an:Nat) (a:Nat->Zd):Tree V:=
 let q0:=(V.rsl false 1 an fun j=>V.cons (V.rsl false 1 (Zd.n0 (a j)) fun j_1=>ci ((a j).2 j_1).f0 V.nil) V.nil)
 let q1:=(V.cons (V.ptr false 3 0 0 0) (ci (an:Int) (ci (0:Int) V.nil)))
 let q2:=(V.cons (V.ptr false 0 0 0 0) (V.cons (V.ptr false 2 0 0 0) (V.cons (V.ptr false 3 0 0 0) V.nil)))
 Tree.need (V.cons (V.bool false false) q1 = V.cons (V.bool false false) q1/\V.cons q0 V.nil = V.cons q0 V.nil/\(IntKind.i64 = IntKind.i64/\ZX .i64 (fun x=>(false,vi (0:Int))) fun k=>(false,V.int true .i64 (0:Int)))/\V.cons (V.mp 1) V.nil = V.cons (V.mp 1) V.nil/\V.cons (V.fn (Fn.func (301:Nat)) V.nil q2) V.nil = V.cons (V.fn (Fn.func (301:FuncId)) V.nil q2) V.nil/\True) (Tree.node (bif Zp (ZeF (Ws a)) an then true else false) (Tree.leaf (V.bool true false)) (Tree.leaf (V.bool true true)))
theorem Zlx (an:Nat) (a:Nat->Zd):ZQ (Zn P [] [gm_lp an a] true) 400 253 (.cons (.rsl false 1 an fun j=>QW false (a j)) .nil) = gMatch_T an a:=by kernel_rfl
def Xf (an:Nat) (a:Nat->Zd):Bool:=
  (bif bif Zp (ZeF (Ws a)) an then true else false then false else true)
theorem Vf (an:Nat) (a:Nat->Zd) (h0:an<=1000) (h1:Vl an a):Zi P 253 (.cons (.rsl false 1 an fun j=>QW false (a j)) .nil) (.bool false (Xf an a)):=
 YI (Zu hm hn (l:=[]) trivial (ls:=[gm_lp an a]) ⟨gm_lp_ok an a h0 h1,trivial⟩ true) 400 (Has.of hn Tryz.func253 rfl) (Zlx an a) (Tree.Pre.mk (by refine ⟨?_,⟨fun _=>trivial,fun _=>trivial⟩⟩; all_goals (first | exact gm_fit an a | (((repeat' (first | exact rfl | exact fun _=>⟨rfl,rfl⟩ | apply And.intro | intro _)); all_goals (try simp only [decide_eq_true_eq,decide_eq_false_iff_not] at *); all_goals omega))))) (by kernel_rfl) (by kernel_rfl)
end Go.Proofs.YtnjjailadijdlaaGreatDoor
end
