/- Appending: the evaluator's answer stands for the model's. -/
import Derived.Test.YtnjjailadijdlaaGreatDoorMAf
set_option maxRecDepth 100000
set_option linter.unusedVariables false
set_option linter.unusedSimpArgs false
noncomputable section
namespace Go.Fw
section
variable {P:Program} {base:Nat} {m:Nat->Option Nat} {F:Nat->Prop} {h:Nat->Blk} {n:Nat} {w:World}
def Rows (F:Nat->Prop) (w:World) (n:Nat) (m:Nat->Option Nat) (z k:Nat) (get:Nat->V) (L:List Value):Prop:=
 L.length = k * z/\∀ j,j < k->∃ xs,RL F w (get j) n m xs/\xs.length = z/\∀ q,q < z->L[j * z + q]? = xs[q]?
theorem Rows.nil {z:Nat} {get:Nat->V}:Rows F w n m z 0 get []:=⟨by simp,fun j hj=>absurd hj (Nat.not_lt_zero _)⟩
theorem Rows.cat {z:Nat} {get:Nat->V}:∀ (k:Nat) (L:List Value),Rows F w n m z k get L->RL F w (Xx get k) n m L:=by
 intro k
 induction k with
 | zero=>
  intro L hL
  have:L = []:=List.eq_nil_of_length_eq_zero (by rw [hL.1]; simp)
  subst this
  show RL F w .nil n m []
  simp only [RL]
 | succ k ih=>
  intro L hL
  obtain ⟨hlen,hrows⟩:=hL
  rw [Nat.add_mul,Nat.one_mul] at hlen
  have e:L = L.take (k * z) ++ L.drop (k * z):=(List.take_append_drop _ _).symm
  rw [e]
  show RL F w ((Xx get k).app (get k)) n m _
  refine VQ _ _ (ih _ ⟨by simp; omega,fun j hj=>?_⟩) _ _ ?_
  ·obtain ⟨xs,h1,h2,h3⟩:=hrows j (by omega)
   refine ⟨xs,h1,h2,fun q hq=>?_⟩
   have hmul:(j + 1) * z<=k * z:=Nat.mul_le_mul_right z hj
   rw [Nat.add_mul,Nat.one_mul] at hmul
   rw [List.getElem?_take_of_lt (by omega)]
   exact h3 q hq
  ·obtain ⟨xs,h1,h2,h3⟩:=hrows k (by omega)
   have e2:L.drop (k * z) = xs:=by
    apply List.ext_getElem?
    intro q
    by_cases hq:q < z
    ·rw [List.getElem?_drop,h3 q hq]
    ·rw [List.getElem?_eq_none (by simp; omega),List.getElem?_eq_none (by omega)]
   rw [e2]
   exact h1
theorem Rows.of_cells {z k:Nat} {get:Nat->V} {c:Array Value} {off:Nat} (hle:off + k * z<=c.size) (hr:∀ j,j < k->∃ xs,RL F w (get j) n m xs/\xs.length = z/\∀ q,q < z->c[off + j * z + q]? = xs[q]?) :
  Rows F w n m z k get ((c.toList.drop off).take (k * z)):=by
 refine ⟨by simp; omega,fun j hj=>?_⟩
 obtain ⟨xs,h1,h2,h3⟩:=hr j hj
 refine ⟨xs,h1,h2,fun q hq=>?_⟩
 have hmul:(j + 1) * z<=k * z:=Nat.mul_le_mul_right z hj
 rw [Nat.add_mul,Nat.one_mul] at hmul
 rw [List.getElem?_take_of_lt (by omega),List.getElem?_drop,<- h3 q hq]
 simp [Nat.add_assoc]
theorem Rows.up {z k:Nat} {get:Nat->V} {L:List Value} (hr:Rows F w 0 (fun _=>none) z k get L):Rows F w n m z k get L:=
 ⟨hr.1,fun j hj=>by
  obtain ⟨xs,h1,h2,h3⟩:=hr.2 j hj
  exact ⟨xs,(YK (Z4.refl w) (fun _ h=>h) (fun _ _=>rfl) (get j) 0 n _ m (Nat.zero_le _) (fun b hb=>absurd hb (Nat.not_lt_zero _))).2 _ h1,h2,h3⟩⟩
theorem Rows.down {z k:Nat} {get:Nat->V} {L:List Value} (hr:Rows F w n m z k get L) (hc:∀ j,j < k->(get j).clean = true):Rows F w 0 (fun _=>none) z k get L:=
 ⟨hr.1,fun j hj=>by
  obtain ⟨xs,h1,h2,h3⟩:=hr.2 j hj
  exact ⟨xs,(WU (get j) (hc j hj) n 0 m _).2 _ h1,h2,h3⟩⟩
theorem Rows.one {z k:Nat} {get:Nat->V} {L:List Value} (hr:Rows F w n m z k get L) (hz:0 < z) (hc:∀ j,j < k->(get j).Xp = true):∀ u ∈ L,u.oneCell' = true:=by
 intro u hu
 obtain ⟨i,hi,e⟩:=List.getElem_of_mem hu
 have hlt:i < k * z:=by rw [<- hr.1]; exact hi
 have hj:i / z < k:=Nat.div_lt_of_lt_mul (by rw [Nat.mul_comm]; exact hlt)
 obtain ⟨xs,h1,h2,h3⟩:=hr.2 (i / z) hj
 have hq:=Nat.mod_lt i hz
 have h4:=h3 (i % z) hq
 have e2:i / z * z + i % z = i:=by rw [Nat.mul_comm]; exact Nat.div_add_mod i z
 rw [e2,List.getElem?_eq_getElem hi,e] at h4
 exact Zga (ZgZ _ _ h1 (hc _ hj)) u (List.mem_of_getElem? h4.symm)
theorem Rows.app {z k k':Nat} {get get':Nat->V} {L L':List Value} (h:Rows F w n m z k get L) (h':Rows F w n m z k' get' L') :
  Rows F w n m z (k + k') (fun j=>bif Nat.blt j k then get j else get' (j - k)) (L ++ L'):=by
 refine ⟨by rw [List.length_append,h.1,h'.1,Nat.add_mul],fun j hj=>?_⟩
 cases hb:Nat.blt j k
 ·have hb':¬ j < k:=fun e=>by rw [<- Nat.blt_eq] at e; rw [e] at hb; cases hb
  obtain ⟨xs,h1,h2,h3⟩:=h'.2 (j - k) (by omega)
  refine ⟨xs,by simp only [hb,cond_false]; exact h1,h2,fun q hq=>?_⟩
  have e:j * z = k * z + (j - k) * z:=by rw [<- Nat.add_mul]; congr 1; omega
  rw [List.getElem?_append_right (by rw [h.1]; omega),h.1,<- h3 q hq]
  congr 1
  omega
 ·have hb':j < k:=by simpa [Nat.blt_eq] using hb
  obtain ⟨xs,h1,h2,h3⟩:=h.2 j hb'
  refine ⟨xs,by simp only [hb,cond_true]; exact h1,h2,fun q hq=>?_⟩
  have hmul:(j + 1) * z<=k * z:=Nat.mul_le_mul_right z hb'
  rw [Nat.add_mul,Nat.one_mul] at hmul
  rw [List.getElem?_append_left (by rw [h.1]; omega)]
  exact h3 q hq
theorem ZkF (old new:Nat->V) (k:Nat):∀ (m j:Nat),GN old k new m j = bif Nat.ble k j&&Nat.blt j (k + m) then new (j - k) else old j:=by
 intro m
 induction m with
 | zero=>
  intro j
  have h:(Nat.ble k j&&Nat.blt j (k + 0)) = false:=by
   cases h1:Nat.ble k j
   ·rfl
   ·have:=Nat.le_of_ble_eq_true h1
    cases h2:Nat.blt j (k + 0)
    ·rfl
    ·have h3:j < k + 0:=by simpa [Nat.blt_eq] using h2
     omega
  rw [h]; rfl
 | succ m ih=>
  intro j
  show (bif Nat.beq j (k + m) then new m else GN old k new m j) = _
  rw [ih]
  have hb:∀ a b:Nat,Nat.ble a b = decide (a<=b):=fun a b=>by
   by_cases h:a<=b
   ·rw [Nat.ble_eq_true_of_le h,decide_eq_true h]
   ·rw [decide_eq_false h]
    cases h':Nat.ble a b
    ·rfl
    ·exact absurd (Nat.le_of_ble_eq_true h') h
  have hlt:∀ a b:Nat,Nat.blt a b = decide (a < b):=fun a b=>hb (a + 1) b
  have he:∀ a b:Nat,Nat.beq a b = decide (a = b):=fun a b=>by
   by_cases h:a = b
   ·subst h; simp
   ·rw [decide_eq_false h]
    cases h':Nat.beq a b
    ·rfl
    ·exact absurd (Nat.eq_of_beq_eq_true h') h
  rw [he,hb,hlt,hlt]
  by_cases h1:j = k + m
  ·subst h1
   simp
  ·by_cases h2:k<=j
   ·by_cases h3:j < k + m
    ·have h4:j < k + (m + 1):=by omega
     simp [h1,h2,h3,h4]
    ·have h4:¬ j < k + (m + 1):=by omega
     simp [h1,h2,h3,h4]
   ·simp [h1,h2]
theorem Rows.appFrom {z k k':Nat} {get get':Nat->V} {L L':List Value} (h:Rows F w n m z k get L) (h':Rows F w n m z k' get' L') :
  Rows F w n m z (k + k') (GN get k get' k') (L ++ L'):=by
 have h2:=h.app h'
 refine ⟨h2.1,fun j hj=>?_⟩
 obtain ⟨xs,g1,g2⟩:=h2.2 j hj
 refine ⟨xs,?_,g2⟩
 rw [ZkF]
 have e:(bif Nat.ble k j&&Nat.blt j (k + k') then get' (j - k) else get j) = (bif Nat.blt j k then get j else get' (j - k)):=by
  cases hb:Nat.blt j k
  ·have hb':k<=j:=by
    rcases Nat.lt_or_ge j k with h | h
    ·rw [<- Nat.blt_eq] at h; rw [h] at hb; cases hb
    ·exact h
   rw [Nat.ble_eq_true_of_le hb',show Nat.blt j (k + k') = true by rw [Nat.blt_eq]; exact hj]
   rfl
  ·have hb':j < k:=by simpa [Nat.blt_eq] using hb
   cases h1:Nat.ble k j
   ·rfl
   ·have:=Nat.le_of_ble_eq_true h1; omega
 rw [e]
 exact g1
theorem ZiF {old new:Nat->V} {k j:Nat} (h:j < k):Jh old k new j = old j:=by
 unfold Jh
 cases hk:Nat.beq k 0
 ·simp only [cond_false]
  rw [show Nat.blt j k = true by rw [Nat.blt_eq]; exact h]
  rfl
 ·have:=Nat.eq_of_beq_eq_true hk; omega
theorem Zjy {old new:Nat->V} {k:Nat} (j:Nat):Jh old k new j = bif Nat.blt j k then old j else new (j - k):=by
 unfold Jh
 cases hk:Nat.beq k 0
 ·rfl
 ·have:=Nat.eq_of_beq_eq_true hk; subst this
  simp only [cond_true]
  cases hb:Nat.blt j 0
  ·simp
  ·rw [Nat.blt_eq] at hb; omega
theorem Rows.cat' {z k k':Nat} {get get':Nat->V} {L:List Value} (h:Rows F w n m z (k + k') (fun j=>bif Nat.blt j k then get j else get' (j - k)) L):Rows F w n m z (k + k') (Jh get k get') L:=
 ⟨h.1,fun j hj=>by rw [Zjy]; exact h.2 j hj⟩
theorem Zki (hr:HR base m F h n w) {z:Nat} {x:V} {X:Value} (hx:R F w x n m X) {st:Bool} {k:Nat} {get:Nat->V} (h1:Uq h z x = some (st,k,get)) :
  ∃ a c,X = .slice a k c/\(k = 0\/∃ ad L,a = some ad/\Rows F w n m z k get L/\∀ i u,L[i]? = some u->w.cell? (ad.add i) = some u):=by
 cases x <;> try (simp only [Uq] at h1; cases h1; done)
 ·rename_i s es k' get'
  unfold Uq at h1
  dsimp only at h1
  cases he:Nat.beq z es
  ·rw [he] at h1; cases h1
  ·rw [he] at h1
   obtain rfl:=Nat.eq_of_beq_eq_true he
   simp only [cond_true,Option.some.injEq,Prod.mk.injEq] at h1
   obtain ⟨rfl,rfl,rfl⟩:=h1
   rw [Xk] at hx
   obtain ⟨a,cap,rfl,hk,hrow⟩:=hx
   refine ⟨a,cap,rfl,hrow.imp id ?_⟩
   rintro ⟨B,off,rfl,hF,c,el,fr,hc,hrr⟩
   by_cases hk0:k' * z = 0
   ·refine ⟨_,[],rfl,⟨by simp [hk0],fun j hj=>?_⟩,fun i u hu=>by simp at hu⟩
    have hz0:z = 0:=by rcases Nat.mul_eq_zero.1 hk0 with h | h; omega; exact h
    obtain ⟨xs,g1,g2,g3⟩:=hrr j hj
    exact ⟨xs,(YK (Z4.refl w) (fun _ h=>h) (fun _ _=>rfl) (get' j) 0 n _ m (Nat.zero_le _) (fun b hb=>absurd hb (Nat.not_lt_zero _))).2 _ g1,g2,fun q hq=>by omega⟩
   ·have hz:0 < z:=Nat.pos_of_ne_zero fun e=>hk0 (by rw [e,Nat.mul_zero])
    have hk':0 < k':=Nat.pos_of_ne_zero fun e=>hk0 (by rw [e,Nat.zero_mul])
    have hle:off + k' * z<=c.size:=by
     obtain ⟨xs,_,g2,g3⟩:=hrr (k' - 1) (by omega)
     have g4:=g3 (z - 1) (by omega)
     rw [List.getElem?_eq_getElem (by omega)] at g4
     have:=(Array.getElem?_eq_some_iff.1 g4).1
     have e:k' * z = (k' - 1) * z + z:=by
      have:k' = (k' - 1) + 1:=by omega
      conv=>lhs; rw [this,Nat.add_mul,Nat.one_mul]
     omega
    refine ⟨_,_,rfl,(Rows.of_cells hle hrr).up,fun i u hu=>?_⟩
    have hi:i < k' * z:=by
     rcases Nat.lt_or_ge i (k' * z) with h | h
     ·exact h
     ·rw [List.getElem?_eq_none (by simp; omega)] at hu; cases hu
    rw [List.getElem?_take_of_lt hi,List.getElem?_drop] at hu
    rw [add_plain]
    simp only [World.cell?,hc,Option.isSome_none,Bool.false_eq_true,if_false]
    simpa using hu
 ·rename_i s b es i0 k'
  unfold Uq at h1
  dsimp only at h1
  cases he:Nat.beq z es
  ·rw [he] at h1; cases h1
  ·rw [he] at h1
   obtain rfl:=Nat.eq_of_beq_eq_true he
   simp only [cond_true] at h1
   rw [Yb] at hx
   obtain ⟨hbn,a,cap,rfl,hk,hrow⟩:=hx
   have hblk:=hr.blk b hbn
   cases hh:h b <;> rw [hh] at h1 hblk <;> try (cases h1; done)
   ·rename_i cs
    dsimp only at h1
    cases hs:s
    ·rw [hs] at h1; cases h1
    cases hle:Nat.ble ((i0 + k') * z) cs.len
    ·rw [hs,hle] at h1; cases h1
    rw [hs,hle] at h1
    simp only [Bool.and_self,cond_true,Option.some.injEq,Prod.mk.injEq] at h1
    obtain ⟨rfl,rfl,rfl⟩:=h1
    refine ⟨a,cap,rfl,?_⟩
    rcases hrow with h0 | ⟨B,c,el,fr,rfl,hB,hc,hz⟩
    ·exact .inl (by omega)
    right
    obtain ⟨B',xs,el',ys,zs,hm,hcell,hsp,hrl⟩:=hblk
    obtain rfl:B = B':=by rw [hB] at hm; injection hm
    have hle':=Nat.le_of_ble_eq_true hle
    rw [Y5 _ _ hrl] at hle'
    have hpl:=KY hsp
    have hadd:(i0 + k') * z = i0 * z + k' * z:=Nat.add_mul _ _ _
    refine ⟨_,_,rfl,Rows.of_cells (c:=xs) (off:=i0 * z) (by omega) (fun j hj=>⟨(ys.drop ((i0 + j) * z)).take z,Kn _ _ (K8 _ _ hrl _) _,?_,fun q hq=>?_⟩),fun i u hu=>?_⟩
    ·have:(i0 + j + 1) * z<=(i0 + k') * z:=Nat.mul_le_mul_right z (by omega)
     rw [Nat.add_mul,Nat.one_mul] at this
     simp; omega
    ·have:(i0 + j + 1) * z<=(i0 + k') * z:=Nat.mul_le_mul_right z (by omega)
     rw [Nat.add_mul,Nat.one_mul] at this
     rw [List.getElem?_take_of_lt hq,List.getElem?_drop,<- Nat.add_mul]
     exact Jv hsp (by omega)
    ·have hi:i < k' * z:=by
      rcases Nat.lt_or_ge i (k' * z) with h | h
      ·exact h
      ·rw [List.getElem?_eq_none (by simp; omega)] at hu; cases hu
     rw [List.getElem?_take_of_lt hi,List.getElem?_drop] at hu
     rw [add_plain]
     simp only [World.cell?,hcell,Option.isSome_none,Bool.false_eq_true,if_false]
     simpa using hu
   ·rename_i es' k2 get2
    dsimp only at h1
    cases he2:Nat.beq z es'
    ·rw [he2] at h1; cases h1
    cases hs:s
    ·rw [he2,hs] at h1; cases h1
    cases hle:Nat.ble (i0 + k') k2
    ·rw [he2,hs,hle] at h1; cases h1
    rw [he2,hs,hle] at h1
    simp only [Bool.and_self,cond_true,Option.some.injEq,Prod.mk.injEq] at h1
    obtain ⟨rfl,rfl,rfl⟩:=h1
    obtain rfl:=Nat.eq_of_beq_eq_true he2
    refine ⟨a,cap,rfl,?_⟩
    rcases hrow with h0 | ⟨B,c,el,fr,rfl,hB,hc,hz⟩
    ·exact .inl (by omega)
    right
    obtain ⟨B',xs,el',hm,hcell,hsz,hrl⟩:=hblk.resolve_left (fun h0=>by rw [hB] at h0; cases h0.2)
    obtain rfl:B = B':=by rw [hB] at hm; injection hm
    have hle':=Nat.le_of_ble_eq_true hle
    have hadd:(i0 + k') * z = i0 * z + k' * z:=Nat.add_mul _ _ _
    have hmul:(i0 + k') * z<=k2 * z:=Nat.mul_le_mul_right z hle'
    refine ⟨_,_,rfl,(Rows.of_cells (c:=xs) (off:=i0 * z) (get:=fun j=>get2 (i0 + j)) (by omega) (fun j hj=>?_)).up,fun i u hu=>?_⟩
    ·obtain ⟨ys,g1,g2,g3⟩:=hrl (i0 + j) (by omega)
     exact ⟨ys,g1,g2,fun q hq=>by rw [<- g3 q hq,Nat.add_mul]⟩
    ·have hi:i < k' * z:=by
      rcases Nat.lt_or_ge i (k' * z) with h | h
      ·exact h
      ·rw [List.getElem?_eq_none (by simp; omega)] at hu; cases hu
     rw [List.getElem?_take_of_lt hi,List.getElem?_drop] at hu
     rw [add_plain]
     simp only [World.cell?,hcell,Option.isSome_none,Bool.false_eq_true,if_false]
     simpa using hu
 ·simp only [Uq,Option.some.injEq,Prod.mk.injEq] at h1
  obtain ⟨rfl,rfl,rfl⟩:=h1
  simp only [R] at hx
  exact ⟨none,0,hx,.inl rfl⟩
 ·simp only [Uq,Option.some.injEq,Prod.mk.injEq] at h1
  obtain ⟨rfl,rfl,rfl⟩:=h1
  simp only [R] at hx
  obtain ⟨ad,hx,_⟩:=hx
  exact ⟨ad,0,hx,.inl rfl⟩
theorem Zdo (hr:HR base m F h n w) {z:Nat} {x:V} {X:Value} (hx:R F w x n m X) {st:Bool} {k:Nat} {get:Nat->V} (h1:rowsOf h z x = some (st,k,get)) :
  ∃ a c,X = .slice a k c/\(k = 0\/∃ ad L,a = some ad/\Rows F w n m z k get L/\∀ i u,L[i]? = some u->w.cell? (ad.add i) = some u):=Zki hr (JV hx) h1
theorem Zca (hr:HR base m F h n w) {z:Nat} {x:V} {X:Value} (hx:R F w x n m X) {st:Bool} {k:Nat} {get:Nat->V} {pre:Prop} {b:Option Nat} (h1:XA h z x = some (st,k,get,pre,b)) (hp:pre) :
  ∃ a cap L,X = .slice a k cap/\k<=cap/\Rows F w n m z k get L/\(∀ ad,a = some ad->∀ i u,L[i]? = some u->w.cell? (ad.add i) = some u)/\(b = none->k = 0/\cap = 0) /\
   (cap = 0\/∃ b' B c el,b = some b'/\b' < n/\m b' = some B/\h b' ≠ .any/\a = some ⟨B,0,none⟩/\w.heap[B]? = some (.cells c el (0,0))/\cap * z<=c.size/\c.toList.take (k * z) = L) /\
   (st = false->Rows F w 0 (fun _=>none) z k get L):=by
 cases x <;> try (simp only [XA] at h1; cases h1; done)
 ·rename_i s b0 es i0 k'
  unfold XA at h1
  dsimp only at h1
  cases he:Nat.beq z es
  ·rw [he] at h1; cases h1
  cases hi0:Nat.beq i0 0
  ·rw [he,hi0] at h1; cases h1
  rw [he,hi0] at h1
  obtain rfl:=Nat.eq_of_beq_eq_true he
  obtain rfl:=Nat.eq_of_beq_eq_true hi0
  simp only [Bool.and_self,cond_true] at h1
  rw [Yb] at hx
  obtain ⟨hbn,a,cap,rfl,hk,hrow⟩:=hx
  have hblk:=hr.blk b0 hbn
  cases hh:h b0 <;> rw [hh] at h1 hblk <;> try (cases h1; done)
  ·rename_i cs
   dsimp only at h1
   cases hs:s
   ·rw [hs] at h1; cases h1
   cases hle:Nat.ble (k' * z) cs.len
   ·rw [hs,hle] at h1; cases h1
   rw [hs,hle] at h1
   simp only [Bool.and_self,cond_true,Option.some.injEq,Prod.mk.injEq] at h1
   obtain ⟨rfl,rfl,rfl,rfl,rfl⟩:=h1
   rcases hrow with h0 | ⟨B,c,el,fr,rfl,hB,hc,hz⟩
   ·obtain rfl:k' = 0:=by omega
    exact ⟨a,cap,[],rfl,hk,Rows.nil,fun ad _ i u hu=>by simp at hu,(fun e=>by cases e),.inl h0,(fun e=>by cases e)⟩
   obtain ⟨B',xs,el',ys,zs,hm,hcell,hsp,hrl⟩:=hblk
   obtain rfl:B = B':=by rw [hB] at hm; injection hm
   rw [hcell] at hc
   injection hc with hc
   injection hc with e1 e2 e3
   subst e1; subst e2; subst e3
   have hle':=Nat.le_of_ble_eq_true hle
   rw [Y5 _ _ hrl] at hle'
   have hpl:=KY hsp
   refine ⟨_,cap,(xs.toList.drop 0).take (k' * z),rfl,hk,Rows.of_cells (off:=0) (by omega) (fun j hj=>⟨(ys.drop (j * z)).take z,Kn _ _ (K8 _ _ hrl _) _,?_,fun q hq=>?_⟩),fun ad had i u hu=>?_,(fun e=>by cases e),.inr ⟨b0,B,xs,_,rfl,hbn,hB,by rw [hh]; simp,by simp,hcell,by simpa using hz,by simp⟩,(fun e=>by cases e)⟩
   ·have:(j + 1) * z<=k' * z:=Nat.mul_le_mul_right z (by omega)
    rw [Nat.add_mul,Nat.one_mul] at this
    simp; omega
   ·have:(j + 1) * z<=k' * z:=Nat.mul_le_mul_right z (by omega)
    rw [Nat.add_mul,Nat.one_mul] at this
    rw [List.getElem?_take_of_lt hq,List.getElem?_drop,Nat.zero_add]
    exact Jv hsp (by omega)
   ·injection had with had
    subst had
    have hi:i < k' * z:=by
     rcases Nat.lt_or_ge i (k' * z) with h | h
     ·exact h
     ·rw [List.getElem?_eq_none (by simp; omega)] at hu; cases hu
    rw [List.getElem?_take_of_lt hi,List.getElem?_drop] at hu
    rw [add_plain]
    simp only [World.cell?,hcell,Option.isSome_none,Bool.false_eq_true,if_false]
    simpa using hu
  ·rename_i es' k2 get2
   dsimp only at h1
   cases he2:Nat.beq z es'
   ·rw [he2] at h1; cases h1
   rw [he2] at h1
   obtain rfl:=Nat.eq_of_beq_eq_true he2
   simp only [cond_true] at h1
   have key:k'<=k2/\k' = k/\get2 = get/\some b0 = b:=by
    cases s with
    | true=>
     dsimp only at h1
     cases hle:Nat.ble k' k2
     ·rw [hle] at h1; cases h1
     ·rw [hle] at h1
      simp only [cond_true,Option.some.injEq,Prod.mk.injEq] at h1
      exact ⟨Nat.le_of_ble_eq_true hle,h1.2.1,h1.2.2.1,by rw [<- h1.2.2.2.2]⟩
    | false=>
     simp only [Option.some.injEq,Prod.mk.injEq] at h1
     refine ⟨?_,h1.2.1,h1.2.2.1,by rw [<- h1.2.2.2.2]⟩
     rw [h1.2.2.2.1]; exact hp
   obtain ⟨hle',rfl,rfl,rfl⟩:=key
   rcases hrow with h0 | ⟨B,c,el,fr,rfl,hB,hc,hz⟩
   ·obtain rfl:k' = 0:=by omega
    exact ⟨a,cap,[],rfl,hk,Rows.nil,fun ad _ i u hu=>by simp at hu,(fun e=>by cases e),.inl h0,fun _=>Rows.nil⟩
   obtain ⟨B',xs,el',hm,hcell,hsz,hrl⟩:=hblk.resolve_left (fun h0=>by rw [hB] at h0; cases h0.2)
   obtain rfl:B = B':=by rw [hB] at hm; injection hm
   rw [hcell] at hc
   injection hc with hc
   injection hc with e1 e2 e3
   subst e1; subst e2; subst e3
   have hmul:k' * z<=k2 * z:=Nat.mul_le_mul_right z hle'
   have hrows:Rows F w 0 (fun _=>none) z k' get2 ((xs.toList.drop 0).take (k' * z)):=Rows.of_cells (off:=0) (by omega) (fun j hj=>by
    obtain ⟨ys,g1,g2,g3⟩:=hrl j (by omega)
    exact ⟨ys,g1,g2,fun q hq=>by rw [<- g3 q hq,Nat.zero_add]⟩)
   refine ⟨_,cap,(xs.toList.drop 0).take (k' * z),rfl,hk,hrows.up,fun ad had i u hu=>?_,(fun e=>by cases e),.inr ⟨b0,B,xs,_,rfl,hbn,hB,by rw [hh]; simp,by simp,hcell,by simpa using hz,by simp⟩,fun _=>hrows⟩
   injection had with had
   subst had
   have hi:i < k' * z:=by
    rcases Nat.lt_or_ge i (k' * z) with h | h
    ·exact h
    ·rw [List.getElem?_eq_none (by simp; omega)] at hu; cases hu
   rw [List.getElem?_take_of_lt hi,List.getElem?_drop] at hu
   rw [add_plain]
   simp only [World.cell?,hcell,Option.isSome_none,Bool.false_eq_true,if_false]
   simpa using hu
 ·simp only [XA,Option.some.injEq,Prod.mk.injEq] at h1
  obtain ⟨rfl,rfl,rfl,rfl,rfl⟩:=h1
  simp only [R] at hx
  subst hx
  exact ⟨none,0,[],rfl,Nat.le_refl _,Rows.nil,(fun ad had=>by cases had),fun _=>⟨rfl,rfl⟩,.inl rfl,fun _=>Rows.nil⟩
 ·simp only [XA,Option.some.injEq,Prod.mk.injEq] at h1
  obtain ⟨rfl,rfl,rfl,rfl,rfl⟩:=h1
  simp only [R] at hx
  obtain ⟨ad,rfl,_⟩:=hx
  exact ⟨ad,0,[],rfl,Nat.le_refl _,Rows.nil,(fun ad had i u hu=>by cases hu),fun _=>⟨rfl,rfl⟩,.inl rfl,fun _=>Rows.nil⟩
theorem ZjU (hr:HR base m F h n w) {z:Nat} {s:V} {st:Bool} {k:Nat} {old:Nat->V} {pre:Prop} {b:Option Nat} (h1:XA h z s = some (st,k,old,pre,b)) {L:List Value} {cap:Nat} (hLr:Rows F w n m z k old L) (hkc:k<=cap)
  (hblk:cap = 0\/∃ b' B c el,b = some b'/\m b' = some B/\w.heap[B]? = some (.cells c el (0,0))/\c.toList.take (k * z) = L) (hb0:∀ b',b = some b'->b' < n)
  (hcat:RL F w (Xx old k) n m L):RL F w (Gf h z s old k) n m L:=by
 unfold Gf
 split
 ·rename_i st0 b0 es i0 k0
  split
  ·rename_i cs hcs
   cases hle:Nat.ble (k * z) cs.len
   ·exact hcat
   simp only [cond_true]
   have hbb:b = some b0:=by
    unfold XA at h1
    dsimp only at h1
    cases he:(Nat.beq z es&&Nat.beq i0 0)
    ·rw [he] at h1; cases h1
    ·rw [he,hcs] at h1
     simp only [cond_true] at h1
     cases hc:(st0&&Nat.ble (k0 * z) cs.len)
     ·rw [hc] at h1; cases h1
     ·rw [hc] at h1
      injection h1 with h1
      injection h1 with _ h1; injection h1 with _ h1; injection h1 with _ h1; injection h1 with _ h1
      exact h1.symm
   have hB:=hr.blk b0 (hb0 b0 hbb)
   rw [hcs] at hB
   obtain ⟨B',xs,el',ys,zs,hm,hcell,hsp,hrl⟩:=hB
   have hlen:=Y5 _ _ hrl
   have hle':=Nat.le_of_ble_eq_true hle
   have hyl:ys.take (k * z) = L:=by
    rcases hblk with h0 | ⟨b',B,c,el,hb',hmB,hc,htk⟩
    ·have hk0:k = 0:=by omega
     subst hk0
     have:L.length = 0:=by rw [hLr.1]; simp
     rw [List.eq_nil_of_length_eq_zero this]; simp
    ·rw [hbb] at hb'
     injection hb' with hb'
     subst hb'
     rw [hm] at hmB
     injection hmB with hmB
     subst hmB
     rw [hcell] at hc
     injection hc with hc
     injection hc with hc1 hc2 hc3
     subst hc1
     rw [<- htk,hsp,List.take_append_of_le_length (by omega)]
   rw [<- hyl]
   exact Kn _ _ hrl _
  ·exact hcat
 ·exact hcat
theorem Za8 (t ty e:TypeId) (i:TypeInfo) (ht:P.underlying t = some (.slice e)) (hi:P.info? e = some i) (a a':Option Addr) (k cap c:Nat) (hk:k<=cap) :
  (Builtin.append_ #[t,t] ty #[.slice a k cap,.slice a' 0 c]).run P w = .ok (.slice a k cap) w:=by
 cases a <;> cases a' <;>
  simp [Builtin.append_,run_underlying ht,sizeOf,typeInfo,hi,Builtin.lenOf,hk,Builtin.firstCells,loadCells,loadCellsFrom,storeCells]
theorem ZbY {g:Nat->Blk} {h0:PT Blk} (hr:HR base m F (look g h0) n w) {t ty e:TypeId} {i:TypeInfo} {zv:Value} (ht:P.underlying t = some (.slice e)) (hi:P.info? e = some i) (hzv:i.zero = some zv)
  (hzs:zv.cells.size = i.size) {a:Option Addr} {k cap:Nat} {L:List Value} (hkc:k<=cap) (hL:L.length = k * i.size) (hLc:∀ ad,a = some ad->∀ j u,L[j]? = some u->w.cell? (ad.add j) = some u)
  {b:Option Nat} (hnone:b = none->k = 0/\cap = 0)
  (hblk:cap = 0\/∃ b' B c el,b = some b'/\b' < n/\m b' = some B/\look g h0 b' ≠ .any/\a = some ⟨B,0,none⟩/\w.heap[B]? = some (.cells c el (0,0))/\cap * i.size<=c.size/\c.toList.take (k * i.size) = L)
  {ad:Addr} {mm c:Nat} {news:List Value} (hm0:0 < mm) (hN:news.length = mm * i.size) (hNc:∀ j u,news[j]? = some u->w.cell? (ad.add j) = some u) (h1:∀ u ∈ news,u.oneCell' = true) (hf:fits (k + mm) i.bytes) :
  ∃ w' B arr el capn rest,(Builtin.append_ #[t,t] ty #[.slice a k cap,.slice (some ad) mm c]).run P w = .ok (.slice (some ⟨B,0,none⟩) (k + mm) capn) w'/\HR base m F (look g (Jl h0 b)) n w'/\Ext base m F n w m F n w' /\
   ((base<=B/\¬ F B)/\B < w'.heap.size/\∀ c,m c = some B->look g (Jl h0 b) c = .any)/\w'.heap[B]? = some (.cells arr el (0,0))/\k + mm<=capn/\capn * i.size<=arr.size/\arr.toList = L ++ news ++ rest/\(w.heap.size<=B\/∃ c,m c = some B):=by
 obtain ⟨hf1,hf2⟩:=hf
 by_cases hroom:k + mm<=cap
 ·rcases hblk with h | ⟨b',B,c0,el,rfl,hbn,hB,hna,rfl,hcell,hsz,htk⟩
  ·omega
  have hfit:k * i.size + news.length<=c0.size:=by
   have:(k + mm) * i.size<=cap * i.size:=Nat.mul_le_mul_right _ hroom
   rw [Nat.add_mul] at this
   omega
  have hfc:=run_firstCells_some (P:=P) w i.size mm ad mm c news hN hNc
  have hst:=run_storeCells_at P B (k * i.size) el news 0 c0 w hcell (by simpa using hfit) h1
  simp only [Nat.add_zero] at hst
  have hrun:(Builtin.append_ #[t,t] ty #[.slice (some ⟨B,0,none⟩) k cap,.slice (some ad) mm c]).run P w = .ok (.slice (some ⟨B,0,none⟩) (k + mm) cap) (w.setRow B (c0.toList.take (k * i.size) ++ news ++ c0.toList.drop (k * i.size + news.length)).toArray):=by
   simp [Builtin.append_,run_underlying ht,sizeOf,typeInfo,hi,Builtin.lenOf,hroom,hfc,add_plain,hst]
  have hns:(c0.toList.take (k * i.size) ++ news ++ c0.toList.drop (k * i.size + news.length)).toArray.size = c0.size:=by
   simp
   omega
  obtain ⟨k1,k2⟩:=hr.turn (h':=look g (Jl h0 (some b'))) hB hcell hns hna (blk:=.any) (fun c=>ZR _ _ _ _ _) (fun _=>trivial)
  refine ⟨_,B,_,el,cap,_,hrun,k1,k2,⟨hr.own b' B hB,by simpa using hr.dom b' B hB,fun c hc=>?_⟩,setRow_heap w B _ _ el _ hcell,hroom,by rw [hns]; exact hsz,by rw [List.toList_toArray,htk],.inr ⟨b',hB⟩⟩
  show look g (h0.set b' .any) c = .any
  rw [ZR]
  by_cases e:c = b'
  ·rw [if_pos e]
  ·rw [if_neg e]
   rcases hr.inj c b' B hc hB e with h | h
   ·exact h
   ·exact absurd h hna
 ·have hcut:∀ old,Later F w F (w.drew.alloc (.cells (L.toArray ++ news.toArray ++ Builtin.zeroCells zv.cells (grownCap w (k + mm) old e - (k + mm))) e)):=fun old=>
   ⟨fun _ h=>h,fun _ h=>.inl h,fun B hB=>heap_alloc_old w.drew _ B hB,by simp,fun hd B hB=>by have:=hd B hB; simp; omega,⟨rfl,rfl,rfl⟩⟩
  have fin:∀ old,(Builtin.append_ #[t,t] ty #[.slice a k cap,.slice (some ad) mm c]).run P w = .ok (.slice (some ⟨w.heap.size,0,none⟩) (k + mm) (grownCap w (k + mm) old e)) (w.drew.alloc (.cells (L.toArray ++ news.toArray ++ Builtin.zeroCells zv.cells (grownCap w (k + mm) old e - (k + mm))) e)) ->
    ∃ w' B arr el capn rest,(Builtin.append_ #[t,t] ty #[.slice a k cap,.slice (some ad) mm c]).run P w = .ok (.slice (some ⟨B,0,none⟩) (k + mm) capn) w'/\HR base m F (look g (Jl h0 b)) n w'/\Ext base m F n w m F n w' /\
     ((base<=B/\¬ F B)/\B < w'.heap.size/\∀ c,m c = some B->look g (Jl h0 b) c = .any)/\w'.heap[B]? = some (.cells arr el (0,0))/\k + mm<=capn/\capn * i.size<=arr.size/\arr.toList = L ++ news ++ rest/\(w.heap.size<=B\/∃ c,m c = some B):=by
   intro old hrun
   have hge:k + mm<=grownCap w (k + mm) old e:=by simp [grownCap,Question.cut]
   refine ⟨_,w.heap.size,_,e,_,(Builtin.zeroCells zv.cells (grownCap w (k + mm) old e - (k + mm))).toList,hrun,(hr.later (hcut old)).ZfG b,hr.ext (hcut old),
    ⟨⟨hr.low,fun hF=>absurd (hr.fdom _ hF) (Nat.lt_irrefl _)⟩,by simp,fun c hc=>absurd (hr.dom c _ hc) (Nat.lt_irrefl _)⟩,heap_alloc_new w.drew _,hge,?_,by simp,.inl (Nat.le_refl _)⟩
   simp only [Array.size_append,List.size_toArray,hL,hN,Builtin.zeroCells,Array.size_map,Array.size_range,hzs]
   rw [<- Nat.add_mul,<- Nat.add_mul]
   refine Nat.mul_le_mul_right _ ?_
   omega
  cases a with
  | none=>
   by_cases hk0:cap = 0
   ·have hk1:k = 0:=by omega
    subst hk0; subst hk1
    have hL0:L = []:=List.eq_nil_of_length_eq_zero (by simpa using hL)
    subst hL0
    refine fin 0 ?_
    have:=run_append_nil (P:=P) (w:=w) t ty e i zv ht hi hzv ad mm c news hN hNc hm0 (by omega) (by simp only [Nat.zero_add] at hf1; omega)
    simpa using this
   ·rcases hblk with h | ⟨b',B,c0,el,_,_,_,_,h,_⟩
    ·exact absurd h hk0
    ·cases h
  | some ad0=>
   refine fin cap ?_
   exact run_append_grow (P:=P) (w:=w) t ty e i zv ht hi hzv ad0 k cap L hL (hLc ad0 rfl) ad mm c news hN hNc (by omega) (by omega) (growslice_fits (by omega) hf1)
theorem Zbl {f:Nat->Bool}:∀ {k:Nat},XB k f = true->∀ j,j < k->f j = true:=by
 intro k
 induction k with
 | zero=>intro _ j hj; omega
 | succ k ih=>
  intro h j hj
  have e:XB (k + 1) f = (XB k f&&f k):=rfl
  rw [e,Bool.and_eq_true] at h
  by_cases e:j = k
  ·subst e; exact h.2
  ·exact ih h.1 j (by omega)
theorem Zk8 {z:Nat} {x:V} {k:Nat} {get:Nat->V} {pre:Prop} {b:Option Nat} (h1:XA h z x = some (true,k,get,pre,b)):pre:=by
 cases x <;> try (simp only [XA] at h1; cases h1; done)
 ·rename_i s b0 es i0 k'
  unfold XA at h1
  dsimp only at h1
  cases hc:(Nat.beq z es&&Nat.beq i0 0)
  ·rw [hc] at h1; cases h1
  rw [hc] at h1
  simp only [cond_true] at h1
  cases hh:h b0 <;> rw [hh] at h1 <;> try (cases h1; done)
  ·rename_i cs
   dsimp only at h1
   cases hc2:(s&&Nat.ble (k' * z) cs.len)
   ·rw [hc2] at h1; cases h1
   rw [hc2] at h1
   simp only [cond_true,Option.some.injEq,Prod.mk.injEq] at h1
   rw [<- h1.2.2.2.1]; trivial
  ·rename_i es' k2 get2
   dsimp only at h1
   cases hc2:Nat.beq z es'
   ·rw [hc2] at h1; cases h1
   rw [hc2] at h1
   simp only [cond_true] at h1
   cases s with
   | true=>
    dsimp only at h1
    cases hc3:Nat.ble k' k2
    ·rw [hc3] at h1; cases h1
    rw [hc3] at h1
    simp only [cond_true,Option.some.injEq,Prod.mk.injEq] at h1
    rw [<- h1.2.2.2.1]; trivial
   | false=>
    simp only [Option.some.injEq,Prod.mk.injEq] at h1
    cases h1.1
 ·simp only [XA,Option.some.injEq,Prod.mk.injEq] at h1
  rw [<- h1.2.2.2.1]; trivial
 ·simp only [XA,Option.some.injEq,Prod.mk.injEq] at h1
  rw [<- h1.2.2.2.1]; trivial
theorem ZlM {z:Nat} {x:V} {X:Value} (hx:R F w x n m X) {st:Bool} {k:Nat} {get:Nat->V} {pre:Prop} {b:Option Nat} (h1:XA h z x = some (st,k,get,pre,b)):∃ a cap,X = .slice a k cap/\k<=cap:=by
 cases x <;> try (simp only [XA] at h1; cases h1; done)
 ·rename_i s b0 es i0 k'
  have hk:k' = k:=by
   unfold XA at h1
   dsimp only at h1
   cases hc:(Nat.beq z es&&Nat.beq i0 0)
   ·rw [hc] at h1; cases h1
   rw [hc] at h1
   simp only [cond_true] at h1
   cases hh:h b0 <;> rw [hh] at h1 <;> try (cases h1; done)
   ·rename_i cs
    dsimp only at h1
    cases hc2:(s&&Nat.ble (k' * z) cs.len)
    ·rw [hc2] at h1; cases h1
    rw [hc2] at h1
    simp only [cond_true,Option.some.injEq,Prod.mk.injEq] at h1
    exact h1.2.1
   ·rename_i es' k2 get2
    dsimp only at h1
    cases hc2:Nat.beq z es'
    ·rw [hc2] at h1; cases h1
    rw [hc2] at h1
    simp only [cond_true] at h1
    cases s with
    | true=>
     dsimp only at h1
     cases hc3:Nat.ble k' k2
     ·rw [hc3] at h1; cases h1
     rw [hc3] at h1
     simp only [cond_true,Option.some.injEq,Prod.mk.injEq] at h1
     exact h1.2.1
    | false=>
     simp only [Option.some.injEq,Prod.mk.injEq] at h1
     exact h1.2.1
  subst hk
  rw [Yb] at hx
  obtain ⟨_,a,cap,rfl,hk,_⟩:=hx
  exact ⟨a,cap,rfl,hk⟩
 ·simp only [XA,Option.some.injEq,Prod.mk.injEq] at h1
  simp only [R] at hx
  rw [<- h1.2.1]
  exact ⟨none,0,hx,Nat.le_refl _⟩
 ·simp only [XA,Option.some.injEq,Prod.mk.injEq] at h1
  simp only [R] at hx
  obtain ⟨ad,hx,_⟩:=hx
  rw [<- h1.2.1]
  exact ⟨ad,0,hx,Nat.le_refl _⟩
theorem ZhI (_hr:HR base m F h n w) {z:Nat} {x:V} {X:Value} (hx:R F w x n m X) {st:Bool} {k:Nat} {get:Nat->V} {pre:Prop} {b:Nat} (h1:XA h z x = some (st,k,get,pre,some b)):b < n:=by
 cases x <;> try (simp only [XA] at h1; cases h1; done)
 rename_i s b0 es i0 k'
 have hb:b0 = b:=by
  unfold XA at h1
  dsimp only at h1
  cases hc:(Nat.beq z es&&Nat.beq i0 0)
  ·rw [hc] at h1; cases h1
  rw [hc] at h1
  simp only [cond_true] at h1
  cases hh:h b0 <;> rw [hh] at h1 <;> try (cases h1; done)
  ·rename_i cs
   dsimp only at h1
   cases hc2:(s&&Nat.ble (k' * z) cs.len)
   ·rw [hc2] at h1; cases h1
   rw [hc2] at h1
   simp only [cond_true,Option.some.injEq,Prod.mk.injEq] at h1
   exact h1.2.2.2.2
  ·rename_i es' k2 get2
   dsimp only at h1
   cases hc2:Nat.beq z es'
   ·rw [hc2] at h1; cases h1
   rw [hc2] at h1
   simp only [cond_true] at h1
   cases s with
   | true=>
    dsimp only at h1
    cases hc3:Nat.ble k' k2
    ·rw [hc3] at h1; cases h1
    rw [hc3] at h1
    simp only [cond_true,Option.some.injEq,Prod.mk.injEq] at h1
    exact h1.2.2.2.2
   | false=>
    simp only [Option.some.injEq,Prod.mk.injEq] at h1
    exact h1.2.2.2.2
 subst hb
 rw [Yb] at hx
 exact hx.1
theorem ZkP {g:Nat->Blk} {h0h:PT Blk} (hr:HR base m F (look g h0h) n w) {ts:Array TypeId} {ty:TypeId} {args:V} {xs:Array Value} (hargs:RL F w args n m xs.toList) {Q:V×PT Blk×Nat->Prop}
  (hq:(Zed P g h0h n ts.toList args).holds P Q) :
  ∃ v h' n' m' w' X,Q (v,h',n')/\(Builtin.append_ ts ty xs).run P w = .ok X w'/\Ext base m F n w m' F n' w'/\HR base m' F (look g h') n' w'/\R F w' v n' m' X:=by
 unfold Zed at hq
 split at hq
 case h_2=>exact hq.elim
 rename_i t t' hts
 cases htt:Nat.beq t t'
 ·rw [htt] at hq; exact hq.elim
 rw [htt] at hq
 obtain rfl:=Nat.eq_of_beq_eq_true htt
 simp only [cond_true] at hq
 split at hq
 case h_2=>exact hq.elim
 rename_i e ht
 split at hq
 case h_2=>exact hq.elim
 rename_i z zero by_ hz hzero hby
 cases hzl:Nat.beq zero.len z
 ·rw [hzl] at hq; exact hq.elim
 cases hz0:Nat.blt 0 z
 ·rw [hzl,hz0] at hq; exact hq.elim
 rw [hzl,hz0] at hq
 simp only [Bool.and_self,cond_true] at hq
 split at hq
 case h_2=>exact hq.elim
 rename_i s x
 split at hq
 case h_2=>exact hq.elim
 rename_i st k old pre b st' mm new hbase hrows
 simp only [RL] at hargs
 obtain ⟨S,r,e1,hS,X,r',e2,hX,e3⟩:=hargs
 subst e3
 have hxs:xs = #[S,X]:=by apply Array.ext'; rw [e1,e2]
 have htsa:ts = #[t,t]:=by apply Array.ext'; rw [hts]
 subst hxs; subst htsa
 unfold ZB at hz
 unfold KI at hby
 cases hi:P.info? e with
 | none=>rw [hi] at hz; cases hz
 | some i=>
 rw [hi] at hz hby
 injection hz with hz; injection hby with hby
 subst hz; subst hby
 obtain ⟨zv,hzv,hzr⟩:=JN (F:=F) (w:=w) (n:=n) (m:=m) hzero
 have hzv':i.zero = some zv:=by
  unfold Xc at hzero
  rw [hi] at hzero
  dsimp only at hzero
  cases hiz:i.zero with
  | none=>rw [hiz] at hzero; cases hzero
  | some q=>
   simp only [zeroValue,typeInfo,Sem.run_bind,run_program,Result.andThen_ok,hi,hiz,Sem.run_pure] at hzv
   injection hzv with hzv _
   rw [hzv]
 have hzs:zv.cells.size = i.size:=by
  have h1:=Nat.eq_of_beq_eq_true hzl
  rw [Y5 _ _ hzr] at h1
  simpa using h1
 have hzpos:0 < i.size:=by simpa [Nat.blt_eq] using hz0
 obtain ⟨a',c,rfl,hnew⟩:=Zdo hr hX hrows
 cases st' with
 | false=>
  dsimp only at hq
  cases b with
  | some b0=>
   dsimp only at hq
   cases hcl:(!st || XB k fun j=>(old j).clean)
   ·rw [hcl] at hq; exact hq.elim
   rw [hcl] at hq
   obtain ⟨⟨hpre,hfit,hcells⟩,hq⟩:=hq
   obtain ⟨a,cap,L,rfl,hkc,hLr,hLc,hnone,hblk,hL0⟩:=Zca hr hS hbase hpre
   have hold:Rows F w 0 (fun _=>none) i.size k old L:=by
    cases st with
    | false=>exact hL0 rfl
    | true=>exact hLr.down fun j hj=>Zbl (by simpa using hcl) j hj
   have hbn:b0 < n:=(ZhI hr hS hbase)
   by_cases hm0:mm = 0
   ·subst hm0
    rw [Nat.add_zero] at hq
    rcases hblk with h0 | ⟨b',B,c0,el,hb',hbn',hB,hna,rfl,hcell,hsz,htk⟩
    ·have hk0:k = 0:=by omega
     subst hk0
     have k0:=hr.ZfG (some b0)
     have k1:=k0.name (h':=look g ((h0h.set b0 .any).set n (.arr i.size 0 (Jh old 0 new)))) (B:=none) (blk:=.arr i.size 0 (Jh old 0 new)) (fun k hk=>by cases hk) (fun c=>ZR _ _ _ _ _) (.inl ⟨rfl,rfl⟩)
     refine ⟨_,_,_,_,w,_,hq,Za8 t ty e i ht hi a a' 0 cap c hkc,(Ext.refl base m F n w).name (fun k hk=>by cases hk),k1,?_⟩
     rw [Yb]
     exact ⟨by omega,a,cap,rfl,hkc,.inl h0⟩
    ·injection hb' with hb'; subst hb'
     have k0:=hr.ZfG (some b0)
     have hfitk:k * i.size<=c0.size:=Nat.le_trans (Nat.mul_le_mul_right _ hkc) hsz
     have k1:=k0.name (h':=look g ((h0h.set b0 .any).set n (.arr i.size k (Jh old k new)))) (B:=some B) (blk:=.arr i.size k (Jh old k new))
      (fun k hk=>by
       injection hk with hk; subst hk
       refine ⟨hr.own b0 B hB,hr.dom b0 B hB,fun c hc=>?_⟩
       show look g (h0h.set b0 .any) c = .any
       rw [ZR]
       by_cases e:c = b0
       ·rw [if_pos e]
       ·rw [if_neg e]
        rcases hr.inj c b0 B hc hB e with h | h
        ·exact h
        ·exact absurd h hna) (fun c=>ZR _ _ _ _ _)
      (.inr ⟨B,c0,el,rfl,hcell,hfitk,fun j hj=>by
       obtain ⟨ys,g1,g2,g3⟩:=hold.2 j hj
       refine ⟨ys,?_,g2,fun q hq=>?_⟩
       ·rw [ZiF hj]; exact g1
       ·rw [<- g3 q hq,<- htk]
        have hmul:(j + 1) * i.size<=k * i.size:=Nat.mul_le_mul_right _ hj
        rw [Nat.add_mul,Nat.one_mul] at hmul
        rw [List.getElem?_take_of_lt (by omega)]
        simp⟩)
     refine ⟨_,_,_,_,w,_,hq,Za8 t ty e i ht hi _ a' k cap c hkc,(Ext.refl base m F n w).name (fun k hk=>by injection hk with hk; subst hk; exact .inr ⟨b0,hB⟩),k1,?_⟩
     rw [Yb]
     exact ⟨by omega,_,cap,rfl,hkc,.inr ⟨B,c0,el,(0,0),by rw [Nat.zero_mul],by rw [if_pos rfl],hcell,by rw [Nat.zero_add]; exact hsz⟩⟩
   ·obtain ⟨ad,N,rfl,hN,hNc⟩:=hnew.resolve_left hm0
    obtain ⟨w',B,arr,el,capn,rest,hrun,k1,k2,k3,k4,k5,k6,k7,k8⟩:=ZbY hr ht hi hzv' hzs hkc hLr.1 hLc hnone hblk (by omega) hN.1 hNc (hN.one hzpos fun j hj=>(hcells j hj).1) hfit
    have hall0:=(hold.app (hN.down fun j hj=>(hcells j hj).2)).cat'
    have hfitsz:(k + mm) * i.size<=arr.size:=Nat.le_trans (Nat.mul_le_mul_right _ k5) k6
    have j1:=k1.name (h':=look g ((Jl h0h (some b0)).set n (.arr i.size (k + mm) (Jh old k new)))) (B:=some B) (blk:=.arr i.size (k + mm) (Jh old k new)) (fun k hk=>by injection hk with hk; subst hk; exact k3) (fun c=>ZR _ _ _ _ _)
     (.inr ⟨B,arr,el,rfl,k4,hfitsz,fun j hj=>by
      obtain ⟨ys,g1,g2,g3⟩:=hall0.2 j hj
      refine ⟨ys,(YK k2.sz k2.f (fun B hB=>k2.keep B (.inr hB)) _ 0 0 _ _ (Nat.le_refl _) (fun _ _ _ h=>h)).2 _ g1,g2,fun q hq=>?_⟩
      rw [<- g3 q hq]
      have hmul:(j + 1) * i.size<=(k + mm) * i.size:=Nat.mul_le_mul_right _ hj
      rw [Nat.add_mul,Nat.one_mul] at hmul
      exact Jv (ys:=L ++ N) (zs:=rest) k7 (by rw [hall0.1]; omega)⟩)
    refine ⟨_,_,_,_,w',_,hq,hrun,k2.name (fun k hk=>by injection hk with hk; subst hk; exact k8),j1,?_⟩
    rw [Yb]
    exact ⟨by omega,_,capn,rfl,k5,.inr ⟨B,arr,el,(0,0),by rw [Nat.zero_mul],by rw [if_pos rfl],k4,by rw [Nat.zero_add]; exact k6⟩⟩
  | none=>
   obtain ⟨⟨hpre,hfit,hcells⟩,hq⟩:=hq
   obtain ⟨a,cap,L,rfl,hkc,hLr,hLc,hnone,hblk,_⟩:=Zca hr hS hbase hpre
   obtain ⟨rfl,rfl⟩:=hnone rfl
   by_cases hm0:mm = 0
   ·subst hm0
    have k1:=hr.name (h':=look g (h0h.set n (.arr i.size 0 new))) (B:=none) (blk:=.arr i.size 0 new) (fun k hk=>by cases hk) (fun c=>ZR _ _ _ _ _) (.inl ⟨rfl,rfl⟩)
    refine ⟨_,_,_,_,w,_,hq,Za8 t ty e i ht hi a a' 0 0 c (Nat.le_refl _),(Ext.refl base m F n w).name (fun k hk=>by cases hk),k1,?_⟩
    rw [Yb]
    exact ⟨by omega,a,0,rfl,Nat.le_refl _,.inl rfl⟩
   ·obtain ⟨ad,N,rfl,hN,hNc⟩:=hnew.resolve_left hm0
    obtain ⟨w',B,arr,el,capn,rest,hrun,k1,k2,k3,k4,k5,k6,k7,k8⟩:=ZbY hr ht hi hzv' hzs (Nat.le_refl 0) hLr.1 hLc (b:=none) (fun _=>⟨rfl,rfl⟩) (.inl rfl) (by omega) hN.1 hNc (hN.one hzpos fun j hj=>(hcells j hj).1) (by rw [Nat.zero_add]; exact hfit)
    have hN0:=hN.down fun j hj=>(hcells j hj).2
    have hL0:L = []:=List.eq_nil_of_length_eq_zero (by simpa using hLr.1)
    subst hL0
    rw [Nat.zero_add] at hrun k5
    have hfitsz:mm * i.size<=arr.size:=Nat.le_trans (Nat.mul_le_mul_right _ k5) k6
    have j1:=k1.name (h':=look g (h0h.set n (.arr i.size mm new))) (B:=some B) (blk:=.arr i.size mm new) (fun k hk=>by injection hk with hk; subst hk; exact k3) (fun c=>ZR _ _ _ _ _)
     (.inr ⟨B,arr,el,rfl,k4,hfitsz,fun j hj=>by
      obtain ⟨ys,g1,g2,g3⟩:=hN0.2 j hj
      refine ⟨ys,(YK k2.sz k2.f (fun B hB=>k2.keep B (.inr hB)) (new j) 0 0 _ _ (Nat.le_refl _) (fun _ _ _ h=>h)).2 _ g1,g2,fun q hq=>?_⟩
      rw [<- g3 q hq]
      have hmul:(j + 1) * i.size<=mm * i.size:=Nat.mul_le_mul_right _ hj
      rw [Nat.add_mul,Nat.one_mul] at hmul
      exact Jv (ys:=N) (zs:=rest) (by simpa using k7) (by rw [hN.1]; omega)⟩)
    refine ⟨_,_,_,_,w',_,hq,hrun,k2.name (fun k hk=>by injection hk with hk; subst hk; exact k8),j1,?_⟩
    rw [Yb]
    exact ⟨by omega,_,capn,rfl,k5,.inr ⟨B,arr,el,(0,0),by rw [Nat.zero_mul],by rw [if_pos rfl],k4,by rw [Nat.zero_add]; exact k6⟩⟩
 | true=>
  dsimp only at hq
  have hb0n:∀ b',b = some b'->b' < n:=fun b' hb'=>by
   have h1:=hbase
   rw [hb'] at h1
   exact ZhI hr hS h1
  obtain ⟨a,cap,rfl,hkc⟩:=ZlM hS hbase
  cases hm0:Nat.beq mm 0
  ·rw [hm0] at hq
   simp only [cond_false] at hq
   have hm1:mm ≠ 0:=fun e=>by subst e; cases hm0
   obtain ⟨ad,N,rfl,hN,hNc⟩:=hnew.resolve_left hm1
   cases hall:XB mm fun j=>(new j).Xp&&Nat.beq (new j).len i.size
   ·rw [hall] at hq; exact hq.elim
   rw [hall] at hq
   simp only [cond_true] at hq
   have hcell1:∀ j,j < mm->(new j).Xp = true:=fun j hj=>by
    have:=Zbl hall j hj
    simp only [Bool.and_eq_true] at this
    exact this.1
   have hone:=hN.one hzpos hcell1
   cases st with
   | true=>
    dsimp only at hq
    cases hfb:Qb (k + mm) i.bytes
    ·rw [hfb] at hq; exact hq.elim
    rw [hfb] at hq
    simp only [cond_true] at hq
    have hfit:fits (k + mm) i.bytes:=by
     unfold Qb at hfb
     simp only [Bool.and_eq_true] at hfb
     exact ⟨Nat.le_of_ble_eq_true hfb.1,Nat.le_of_ble_eq_true hfb.2⟩
    obtain ⟨a,cap,L,hSe,hkc,hLr,hLc,hnone,hblk,_⟩:=Zca hr hS hbase (Zk8 hbase)
    injection hSe with s1 s2 s3
    subst s1; subst s3
    obtain ⟨w',B,arr,el,capn,rest,hrun,k1,k2,k3,k4,k5,k6,k7,k8⟩:=ZbY hr ht hi hzv' hzs hkc hLr.1 hLc hnone hblk (by omega) hN.1 hNc hone hfit
    have j1:=k1.name (h':=look g ((Jl h0h b).set n (.var ((Gf (look g h0h) i.size s old k).app (Xx new mm))))) (B:=some B) (blk:=.var ((Gf (look g h0h) i.size s old k).app (Xx new mm))) (fun k hk=>by injection hk with hk; subst hk; exact k3) (fun c=>ZR _ _ _ _ _)
     ⟨B,arr,el,L ++ N,rest,rfl,k4,k7,by
      have hrow:RL F w ((Gf (look g h0h) i.size s old k).app (Xx new mm)) n m (L ++ N):=VQ _ _ (ZjU hr hbase hLr hkc (hblk.imp id fun ⟨b',B,c0,el,e1,_,e2,_,_,e3,_,e4⟩=>⟨b',B,c0,el,e1,e2,e3,e4⟩) hb0n (hLr.cat k L)) _ _ (hN.cat mm N)
      exact (YK k2.sz k2.f (fun B hB=>k2.keep B (.inr hB)) _ n (n + 1) m _ (by omega) (fun c hc B hB=>by rw [if_neg (by omega)]; exact hB)).2 _ hrow⟩
    refine ⟨_,_,_,_,w',_,hq,hrun,k2.name (fun k hk=>by injection hk with hk; subst hk; exact k8),j1,?_⟩
    rw [Yb]
    exact ⟨by omega,_,capn,rfl,k5,.inr ⟨B,arr,el,(0,0),by rw [Nat.zero_mul],by rw [if_pos rfl],k4,by rw [Nat.zero_add]; exact k6⟩⟩
   | false=>
    dsimp only at hq
    cases hcl:XB mm fun j=>(new j).clean
    ·rw [hcl] at hq; exact hq.elim
    rw [hcl] at hq
    obtain ⟨⟨hpre,hfit⟩,hq⟩:=hq
    obtain ⟨a,cap,L,hSe,hkc,hLr,hLc,hnone,hblk,hL0⟩:=Zca hr hS hbase hpre
    injection hSe with s1 s2 s3
    subst s1; subst s3
    obtain ⟨w',B,arr,el,capn,rest,hrun,k1,k2,k3,k4,k5,k6,k7,k8⟩:=ZbY hr ht hi hzv' hzs hkc hLr.1 hLc hnone hblk (by omega) hN.1 hNc hone hfit
    have hall0:=(hL0 rfl).appFrom (hN.down fun j hj=>Zbl hcl j hj)
    have hfitsz:(k + mm) * i.size<=arr.size:=Nat.le_trans (Nat.mul_le_mul_right _ k5) k6
    have j1:=k1.name (h':=look g ((Jl h0h b).set n (.arr i.size (k + mm) (GN old k new mm)))) (B:=some B) (blk:=.arr i.size (k + mm) (GN old k new mm)) (fun k hk=>by injection hk with hk; subst hk; exact k3) (fun c=>ZR _ _ _ _ _)
     (.inr ⟨B,arr,el,rfl,k4,hfitsz,fun j hj=>by
      obtain ⟨ys,g1,g2,g3⟩:=hall0.2 j hj
      refine ⟨ys,(YK k2.sz k2.f (fun B hB=>k2.keep B (.inr hB)) _ 0 0 _ _ (Nat.le_refl _) (fun _ _ _ h=>h)).2 _ g1,g2,fun q hq=>?_⟩
      rw [<- g3 q hq]
      have hmul:(j + 1) * i.size<=(k + mm) * i.size:=Nat.mul_le_mul_right _ hj
      rw [Nat.add_mul,Nat.one_mul] at hmul
      exact Jv (ys:=L ++ N) (zs:=rest) k7 (by rw [hall0.1]; omega)⟩)
    refine ⟨_,_,_,_,w',_,hq,hrun,k2.name (fun k hk=>by injection hk with hk; subst hk; exact k8),j1,?_⟩
    rw [Yb]
    exact ⟨by omega,_,capn,rfl,k5,.inr ⟨B,arr,el,(0,0),by rw [Nat.zero_mul],by rw [if_pos rfl],k4,by rw [Nat.zero_add]; exact k6⟩⟩
  ·rw [hm0] at hq
   have hm1:=Nat.eq_of_beq_eq_true hm0
   subst hm1
   exact ⟨_,_,_,m,w,_,hq,Za8 t ty e i ht hi a a' k cap c hkc,Ext.refl base m F n w,hr,hS⟩
end
end Go.Fw
end
