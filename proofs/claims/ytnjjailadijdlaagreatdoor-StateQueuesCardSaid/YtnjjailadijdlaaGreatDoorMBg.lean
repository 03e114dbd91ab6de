/- StateQueues: it answers true at whatever state. -/
import Derived.Test.YtnjjailadijdlaaGreatDoorMBe
import Derived.Test.YtnjjailadijdlaaGreatDoorMBf
set_option maxRecDepth 100000
set_option linter.unusedVariables false
set_option linter.unusedSimpArgs false
noncomputable section
namespace Go.Proofs.YtnjjailadijdlaaGreatDoor
open Go.Fw
abbrev Zfj (ck:Zb->Int) (a e:Zb) (ak:ZU):List Con:=Zfa :: ZhM a e :: Jk ck :: XZ e ak
theorem Zmo (a:Zb) (h:small (XL a)):Wy P (Zfj Zv a (XL a) (Yj (XL a))):=⟨Zjs,ZiZ a,Gn,asksL_ok _ h⟩
def qdHead (e:Zb) (ak:ZU):Prop:=vEq 2 (qd_ts e ak (JM e ak e.n2) (0:Nat) 0) (qd_ts e ak (JM e ak e.n2) (0:Nat) 0)/\Zaj 2 [] (qd_ys e ak (JM e ak e.n2) (0:Nat) 0) (qd_ys e ak (JM e ak e.n2) (0:Nat) 0)
theorem Zjm (ck:Zb->Int) (a e:Zb) (ak:ZU):ZQ (Zn P (Zfj ck a e ak) [qa_lp e ak,qd_in e ak] true) 400 6 (.cons (.agg (Zt false a)) .nil) =
 .need (V.cons (V.agg (Zt false a)) V.nil = V.cons (V.agg (Zt false a)) V.nil/\True) (.need (V.cons (V.agg (Zt false e)) V.nil = V.cons (V.agg (Zt false e)) V.nil/\small e) (.node (bif ck e != (0:Int) then true else false) (.leaf (.bool true true))
  (.need (qa_need e ak) (.node (bif Zp (qa_bad e ak) e.n2 then true else false) (.leaf (.bool true false))
   (.need (e.n6<=1000/\qdHead e ak)
    (.leaf (.bool false (bif JM e ak e.n2==Vv e ak e.n6 then decide (((e.n12:Nat):Int)<=Vv e ak e.n6) else false)))))))):=by kernel_rfl
theorem small_cut (a:Zb):small (XL a):=by
 obtain ⟨h1,h2,h3,h4,h5,h6,h8,h10,h11,h12,hm⟩:=Zgh a
 exact ⟨h1,h2,by omega,by omega,by omega,by omega,by omega,by omega,by omega,by omega,fun j=>by have:=hm j; omega⟩
theorem Zje (a:Zb):Zi P 6 (.cons (.agg (Zt false a)) .nil) (.bool true true):=by
 have hs:=small_cut a
 obtain ⟨h1,h2,h3,h4,h5,h6,h8,h10,h11,h12,hmm⟩:=Zgh a
 generalize he:XL a = e at hs h1 h2 h3 h4 h5 h6 h8 h10 h11 h12 hmm
 have hok:Wy P (Zfj Zv a e (Yj e)):=by rw [<- he] at hs ⊢; exact Zmo a hs
 have hk:Wy P (XZ e (Yj e)):=hok.2.2.2
 refine meets (Zu hm hn hok (ls:=[qa_lp e (Yj e),qd_in e (Yj e)]) ⟨qa_lp_ok e (Yj e) (by omega) hk (fun p b=>Nat.le_trans (qn_le p b) (by omega)) (fun p=>Nat.le_trans (hn_le p) (by omega)),qd_in_ok e (Yj e) hk,trivial⟩ true) 400 (Has.of hn Tryz.func6 rfl) (Zjm Zv a e (Yj e)) ?_
 refine ⟨⟨rfl,trivial⟩,⟨rfl,hs⟩,fun _=>⟨rfl,rfl⟩,fun hc=>?_⟩
 have hc:Zv e = 0:=by
  have h:=nf4 hc
  rw [bne] at h
  exact eqT (nT h)
 refine ⟨qa_fit e (Yj e),fun hb=>?_,fun hb=>⟨⟨by omega,rfl,rfl,trivial⟩,rfl,?_⟩⟩
 ·rw [VP (fun k hk=>(qa_one hc (by omega) hk 0).2)] at hb
  cases hb
 ·have e1:=qa_qd hc (by omega) (by omega)
  have e2:decide (((e.n12:Nat):Int)<=Vv e (Yj e) e.n6) = true:=by
   rw [qd_eq (by omega) e.n6 (Nat.le_refl _)]
   have:=puts_le hc (by omega)
   exact decide_eq_true (by
    have h9:e.n12<=cnt (fun j=>(Yj e).runs (stO (e.r6 j))) e.n6:=this
    omega)
  rw [e1,e2]
  simp only [beq_self_eq_true,cond_true]
  rfl
end Go.Proofs.YtnjjailadijdlaaGreatDoor
end
