/- Rows laid over others: appended where there is room, brought to naught, copied; new rows of zeros. -/
import Derived.Test.YtnjjailadijdlaaGreatDoorMAg
import Derived.Laws.MakeOwn
import Derived.RangeFuncRecord
set_option maxRecDepth 100000
set_option linter.unusedVariables false
set_option linter.unusedSimpArgs false
noncomputable section
namespace Go.Fw
section
variable {P:Program} {base:Nat} {m:Nat->Option Nat} {F:Nat->Prop} {n:Nat} {w:World} {g:Nat->Blk} {h0:PT Blk}
theorem ZeX {h:Nat->Blk} (hr:HR base m F h n w) {b B z i mm:Nat} (hbn:b < n) (hB:m b = some B) {st:Bool} {new:Nat->V} {L:List Value} (hz:0 < z) (hL:Rows F w n m z mm new L) {Q:Blk->Prop}
  (hq:(Ut (h b) z i st mm new).holds P Q):∃ blk w',Q blk/\(storeCells ⟨B,i * z,none⟩ L).run P w = .ok () w'/\(∀ h':Nat->Blk,(∀ c,h' c = if c = b then blk else h c)->HR base m F h' n w')/\Ext base m F n w m F n w':=by
 have hblk:=hr.blk b hbn
 unfold Ut at hq
 cases hh:h b <;> rw [hh] at hq hblk <;> try (exact hq.elim)
 ·rename_i cs
  dsimp only at hq
  obtain ⟨B',xs,el,ys,zs,hm,hcell,hsp,hrow⟩:=hblk
  obtain rfl:B = B':=by rw [hB] at hm; injection hm
  cases hst:st
  ·rw [hst] at hq; exact hq.elim
  cases hle:Nat.ble ((i + mm) * z) cs.len
  ·rw [hst,hle] at hq; exact hq.elim
  cases hall:XB mm (fun j=>(new j).Xp&&Nat.beq (new j).len z)
  ·rw [hst,hle,hall] at hq; exact hq.elim
  rw [hst,hle,hall] at hq
  have hle':=Nat.le_of_ble_eq_true hle
  rw [Y5 _ _ hrow] at hle'
  have hone:∀ u ∈ L,u.oneCell' = true:=hL.one hz fun j hj=>by
   have:=Zbl hall j hj
   simp only [Bool.and_eq_true] at this
   exact this.1
  have hlen:L.length = mm * z:=hL.1
  have hadd:(i + mm) * z = i * z + mm * z:=Nat.add_mul _ _ _
  have hpl:=KY hsp
  have hrun:=run_storeCells_at P B (i * z) el L 0 xs w hcell (by omega) hone
  simp only [Nat.add_zero] at hrun
  rw [ZcO _ _ _ (by simp; omega)] at hrun
  have hcat:=Rows.cat mm L hL
  have ht:=fun h' hh'=>hr.turn (h':=h') hm hcell (new:=(YU xs.toList (i * z) L).toArray) (by simp [Wu]) (by rw [hh]; simp) (blk:=.var (cs.splice (i * z) (Xx new mm))) hh' (fun hrl=>
   ⟨B,_,el,YU ys (i * z) L,zs,rfl,setRow_heap w B _ _ el _ hcell,by rw [List.toList_toArray,hsp,Ziw _ _ _ _ (by omega)],Zb0 cs _ (hrl _ _ _ _ hrow) (i * z) (Xx new mm) _ (hrl _ _ _ _ hcat)⟩)
  exact ⟨_,_,hq,hrun,fun h' hh'=>(ht h' hh').1,(ht (fun c=>if c = b then _ else h c) (fun _=>rfl)).2⟩
 ·rename_i es k get
  dsimp only at hq
  cases he:Nat.beq z es
  ·rw [he] at hq; exact hq.elim
  rw [he] at hq
  obtain rfl:=Nat.eq_of_beq_eq_true he
  obtain ⟨⟨hik,hcl⟩,hq⟩:=hq
  have hone:∀ u ∈ L,u.oneCell' = true:=hL.one hz fun j hj=>(hcl j hj).1
  have hL0:=hL.down fun j hj=>(hcl j hj).2
  have hlen:L.length = mm * z:=hL.1
  have hadd:(i + mm) * z = i * z + mm * z:=Nat.add_mul _ _ _
  have hmulk:(i + mm) * z<=k * z:=Nat.mul_le_mul_right z hik
  rcases hblk with ⟨hk0,hB0⟩ | ⟨B',c,el,hm,hcell,hsz,hrow⟩
  ·rw [hB] at hB0; cases hB0
  obtain rfl:B = B':=by rw [hB] at hm; injection hm
  have hrun:=run_storeCells_at P B (i * z) el L 0 c w hcell (by omega) hone
  simp only [Nat.add_zero] at hrun
  rw [ZcO _ _ _ (by simp; omega)] at hrun
  have ht:=fun h' hh'=>hr.turn (h':=h') hm hcell (new:=(YU c.toList (i * z) L).toArray) (by simp [Wu]) (by rw [hh]; simp) (blk:=.arr z k fun j=>bif Nat.ble i j&&Nat.blt j (i + mm) then new (j - i) else get j) hh' (fun hrl=>by
   refine .inr ⟨B,_,el,rfl,setRow_heap w B _ _ el _ hcell,by simp [Wu,hsz],fun j hj=>?_⟩
   have hmulj:(j + 1) * z<=k * z:=Nat.mul_le_mul_right z hj
   rw [Nat.add_mul,Nat.one_mul] at hmulj
   cases hin:Nat.ble i j&&Nat.blt j (i + mm)
   ·obtain ⟨xs,h1,h2,h3⟩:=hrow j hj
    refine ⟨xs,by dsimp only; rw [hin]; exact hrl _ _ _ _ h1,h2,fun q hq'=>?_⟩
    simp only [List.getElem?_toArray]
    rw [JG _ _ _ _ (by simp; omega),if_neg,<- h3 q hq']
    ·simp
    ·intro hc
     have hj2:i<=j/\j < i + mm:=by
      constructor
      ·rcases Nat.lt_or_ge j i with h | h
       ·have:(j + 1) * z<=i * z:=Nat.mul_le_mul_right z h
        rw [Nat.add_mul,Nat.one_mul] at this
        omega
       ·exact h
      ·rcases Nat.lt_or_ge j (i + mm) with h | h
       ·exact h
       ·have:(i + mm) * z<=j * z:=Nat.mul_le_mul_right z h
        omega
     have:(Nat.ble i j&&Nat.blt j (i + mm)) = true:=by
      simp only [Bool.and_eq_true,Nat.blt_eq,Nat.ble_eq]; exact hj2
     rw [hin] at this; cases this
   ·have hin2:=hin
    simp only [Bool.and_eq_true,Nat.blt_eq,Nat.ble_eq] at hin2
    obtain ⟨xs,g1,g2,g3⟩:=hL0.2 (j - i) (by omega)
    refine ⟨xs,by dsimp only; rw [hin]; exact hrl _ _ _ _ g1,g2,fun q hq'=>?_⟩
    simp only [List.getElem?_toArray]
    have hjm:j * z = i * z + (j - i) * z:=by rw [<- Nat.add_mul]; congr 1; omega
    have hmj:(j - i + 1) * z<=mm * z:=Nat.mul_le_mul_right z (by omega)
    rw [Nat.add_mul,Nat.one_mul] at hmj
    rw [JG _ _ _ _ (by simp; omega),if_pos (by omega),<- g3 q hq']
    congr 1
    omega)
  exact ⟨_,_,hq,hrun,fun h' hh'=>(ht h' hh').1,(ht (fun c=>if c = b then _ else h c) (fun _=>rfl)).2⟩
theorem Zln:∀ (cs:V) (o:Nat),cs.splice o .nil = cs:=by
 intro cs
 induction cs with
 | cons h t _ ih=>
  intro o
  simp only [V.splice,ih]
  cases Nat.beq o 0 <;> rfl
 | _=>intro o; rfl
theorem Ze1 {blk:Blk} {z i:Nat} {st:Bool} {new:Nat->V} {Q:Blk->Prop} (hq:(Ut blk z i st 0 new).holds P Q):Q blk:=by
 unfold Ut at hq
 cases blk <;> try (exact hq.elim)
 ·rename_i cs
  dsimp only at hq
  cases hc:(st&&(Nat.ble ((i + 0) * z) cs.len&&XB 0 (fun j=>(new j).Xp&&Nat.beq (new j).len z)))
  ·rw [hc] at hq; exact hq.elim
  ·rw [hc] at hq
   have h:Q (.var (cs.splice (i * z) .nil)):=hq
   rw [Zln] at h
   exact h
 ·rename_i es k get
  dsimp only at hq
  cases he:Nat.beq z es
  ·rw [he] at hq; exact hq.elim
  rw [he] at hq
  have e:(fun j=>bif Nat.ble i j&&Nat.blt j (i + 0) then new (j - i) else get j) = get:=by
   funext j
   have:(Nat.ble i j&&Nat.blt j (i + 0)) = false:=by
    cases h:Nat.ble i j&&Nat.blt j (i + 0) with
    | false=>rfl
    | true=>simp only [Bool.and_eq_true,Nat.blt_eq,Nat.ble_eq] at h; omega
   rw [this]; rfl
  have h:=hq.2
  rw [e] at h
  exact h
theorem Zh3 {α:Type} {st:Bool} {a b:Nat} {T:Tree α} {Q:α->Prop} (h:(ZdB st a b T).holds P Q):a<=b/\T.holds P Q:=by
 cases st with
 | false=>exact h
 | true=>
  simp only [ZdB] at h
  cases hb:Nat.ble a b
  ·rw [hb] at h; exact h.elim
  ·rw [hb] at h; exact ⟨Nat.le_of_ble_eq_true hb,h⟩
theorem ZdE {e:TypeId} {z:Nat} (hz:ZB P e = some z):∃ i,P.info? e = some i/\i.size = z:=by
 unfold ZB at hz
 cases hi:P.info? e with
 | none=>rw [hi] at hz; cases hz
 | some i=>rw [hi] at hz; injection hz with hz; exact ⟨i,rfl,hz⟩
theorem Zes (b:Nat):look g (h0.set b (look g h0 b)) = look g h0:=by
 funext c
 rw [ZR]
 by_cases e:c = b
 ·rw [if_pos e,e]
 ·rw [if_neg e]
theorem Zl1 (hr:HR base m F (look g h0) n w) {t ty e:TypeId} (ht:P.underlying t = some (.slice e)) {st:Bool} {b es i k c:Nat} {x:V} {S X:Value} (hS:R F w (.osp st b es i k c) n m S) (hX:R F w x n m X) {Q:V×PT Blk×Nat->Prop}
  (hq:(ZeY P g h0 n e (.osp st b es i k c) x).holds P Q) :
  ∃ v h' n' m' w' Y,Q (v,h',n')/\(Builtin.append_ #[t,t] ty #[S,X]).run P w = .ok Y w'/\Ext base m F n w m' F n' w'/\HR base m' F (look g h') n' w'/\R F w' v n' m' Y:=by
 unfold ZeY at hq
 cases hz:ZB P e with
 | none=>rw [hz] at hq; exact hq.elim
 | some z=>
  rw [hz] at hq
  dsimp only at hq
  cases hz0:Nat.blt 0 z
  ·rw [hz0] at hq; exact hq.elim
  rw [hz0] at hq
  simp only [cond_true] at hq
  cases he:Nat.beq z es
  ·rw [he] at hq; exact hq.elim
  rw [he] at hq
  obtain rfl:=Nat.eq_of_beq_eq_true he
  simp only [cond_true] at hq
  have hzpos:0 < z:=by simpa [Nat.blt_eq] using hz0
  cases hrows:rowsOf (look g h0) z x with
  | none=>rw [hrows] at hq; exact hq.elim
  | some r=>
   obtain ⟨st',mm,new⟩:=r
   rw [hrows] at hq
   obtain ⟨hle,hq⟩:=Zh3 hq
   rw [Tree.Ya] at hq
   obtain ⟨i0,hi,hsz⟩:=ZdE hz
   have hS0:=hS
   rw [QX] at hS
   obtain ⟨hbn,a,cap,rfl,hk,hk2,hcap⟩:=hS
   obtain ⟨a',c',rfl,hnew⟩:=Zdo hr hX hrows
   rcases Nat.eq_zero_or_pos mm with hm0 | hm0
   ·subst hm0
    have h1:=Ze1 hq
    refine ⟨_,_,n,m,w,_,h1,Za8 (P:=P) (w:=w) t ty e i0 ht hi a a' k cap c' (by omega),Ext.refl _ _ _ _ _,by rw [Zes]; exact hr,?_⟩
    rw [QX]
    exact ⟨hbn,a,cap,rfl,by omega,hk2,hcap⟩
   ·rcases hcap with h0 | ⟨B,c0,el,fr,rfl,hB,hc0,hsz0⟩
    ·omega
    rcases hnew with h0 | ⟨ad,L,rfl,hL,hLc⟩
    ·omega
    have hkm:(look g h0 b) ≠ .any->True:=fun _=>trivial
    obtain ⟨blk,w',h1,h2,h3,h4⟩:=ZeX hr hbn hB hzpos hL hq
    have hfc:=run_firstCells_some (P:=P) w z mm ad mm c' L hL.1 hLc
    refine ⟨_,_,n,m,w',.slice (some ⟨B,i * z,none⟩) (k + mm) cap,h1,?_,h4,h3 _ (fun c=>ZR _ _ _ _ _),?_⟩
    ·have hadd:(⟨B,i * z,none⟩:Addr).add (k * z) = ⟨B,(i + k) * z,none⟩:=by rw [add_plain,Nat.add_mul]
     have hroom:k + mm<=cap:=by omega
     simp [Builtin.append_,run_underlying ht,sizeOf,typeInfo,hi,hsz,Builtin.lenOf,hroom,hfc,hadd,h2]
    ·have h5:=h4.val hS0
     rw [QX] at h5 ⊢
     obtain ⟨g1,g2,g3,g4,g5,g6,g7⟩:=h5
     injection g4 with g41 g42 g43
     subst g41; subst g43
     exact ⟨g1,_,_,rfl,by omega,g6,g7⟩
theorem ZcG {z k:Nat} {cs:V} {zs:Array Value} (_:0 < z) (hs:zs.size = z) (hrl:RL F w cs n m zs.toList):Rows F w n m z k (fun _=>cs) (Builtin.zeroCells zs k).toList:=by
 have hlen:(Builtin.zeroCells zs k).toList.length = k * z:=by simp [Builtin.zeroCells,hs]
 refine ⟨hlen,fun j hj=>⟨zs.toList,hrl,by simp [hs],fun q hq=>?_⟩⟩
 have hmul:(j + 1) * z<=k * z:=Nat.mul_le_mul_right z hj
 rw [Nat.add_mul,Nat.one_mul] at hmul
 have hlt:j * z + q < k * z:=by omega
 have hmod:(j * z + q) % z = q:=by rw [Nat.mul_comm,Nat.mul_add_mod,Nat.mod_eq_of_lt hq]
 simp only [Builtin.zeroCells,Array.getElem?_toList,hs]
 rw [Array.getElem?_map,Array.getElem?_range,if_pos (by rw [hs] at *; exact hlt)]
 simp only [Option.map_some,hmod]
 rw [getElem!_pos zs q (by omega),Array.getElem?_eq_getElem (by omega)]
theorem Zl4 (hr:HR base m F (look g h0) n w) {ts:Array TypeId} {ty:TypeId} {args:V} {xs:Array Value} (hargs:RL F w args n m xs.toList) {Q:V×PT Blk×Nat->Prop}
  (hq:(Zfz P g h0 n ts.toList args).holds P Q) :
  ∃ v h' n' m' w' X,Q (v,h',n')/\(Builtin.clear_ ts ty xs).run P w = .ok X w'/\Ext base m F n w m' F n' w'/\HR base m' F (look g h') n' w'/\R F w' v n' m' X:=by
 unfold Zfz at hq
 split at hq
 case h_2=>exact hq.elim
 rename_i t tr hts
 split at hq
 case h_2=>exact hq.elim
 rename_i e ht
 split at hq
 case h_2=>exact hq.elim
 rename_i z zero hz hzero
 cases hzl:Nat.beq zero.len z
 ·rw [hzl] at hq; exact hq.elim
 cases hz0:Nat.blt 0 z
 ·rw [hzl,hz0] at hq; exact hq.elim
 rw [hzl,hz0] at hq
 simp only [Bool.and_self,cond_true] at hq
 split at hq
 case h_2=>exact hq.elim
 rename_i s rest
 simp only [RL] at hargs
 obtain ⟨S,r,e1,hS,hrest⟩:=hargs
 have hts0:ts[0]? = some t:=by rw [<- Array.getElem?_toList,hts]; rfl
 have hxs0:xs[0]? = some S:=by rw [<- Array.getElem?_toList,e1]; rfl
 have hzpos:0 < z:=by simpa [Nat.blt_eq] using hz0
 have unit:∀ {w':World} {m':Nat->Option Nat} {n':Nat},R F w' (.tup .nil) n' m' (.tuple #[]):=by
  intro w' m' n'
  simp only [R]
  exact ⟨#[],rfl,by simp only [RL]⟩
 have hS':=JV hS
 cases hp:s.Xo <;> rw [hp] at hq hS' <;> try exact hq.elim
 ·rename_i st b es i k
  dsimp only at hq
  cases he:Nat.beq z es
  ·rw [he] at hq; exact hq.elim
  rw [he] at hq
  obtain rfl:=Nat.eq_of_beq_eq_true he
  simp only [cond_true] at hq
  rw [Tree.Ya] at hq
  rw [Yb] at hS'
  obtain ⟨hbn,a,cap,rfl,hk,hcap⟩:=hS'
  rcases Nat.eq_zero_or_pos k with hk0 | hk0
  ·subst hk0
   have h1:=Ze1 hq
   refine ⟨_,_,n,m,w,.tuple #[],h1,?_,Ext.refl _ _ _ _ _,by rw [Zes]; exact hr,unit⟩
   cases a <;> simp [Builtin.clear_,hts0,hxs0,run_underlying ht]
  ·rcases hcap with h0 | ⟨B,c0,el,fr,rfl,hB,hc0,hsz0⟩
   ·omega
   obtain ⟨zv,hzv⟩:=JN (F:=F) (w:=w) (n:=n) (m:=m) hzero
   have hzs:zv.cells.size = z:=by
    have h1:=Nat.eq_of_beq_eq_true hzl
    rw [Y5 _ _ hzv.2] at h1
    simpa using h1
   have hL:=ZcG (k:=k) hzpos hzs hzv.2
   obtain ⟨blk,w',h1,h2,h3,h4⟩:=ZeX hr hbn hB hzpos hL hq
   refine ⟨_,_,n,m,w',.tuple #[],h1,?_,h4,h3 _ (fun c=>ZR _ _ _ _ _),unit⟩
   obtain ⟨k',rfl⟩:∃ k',k = k' + 1:=⟨k - 1,by omega⟩
   simp [Builtin.clear_,hts0,hxs0,run_underlying ht,hzv.1,h2]
 ·simp only [R] at hS'
  subst hS'
  refine ⟨_,_,n,m,w,.tuple #[],hq,?_,Ext.refl _ _ _ _ _,hr,unit⟩
  simp [Builtin.clear_,hts0,hxs0,run_underlying ht]
theorem ZiH (hr:HR base m F (look g h0) n w) {ts:Array TypeId} {ty:TypeId} {args:V} {xs:Array Value} (hargs:RL F w args n m xs.toList) {Q:V×PT Blk×Nat->Prop}
  (hq:(evCopy P g h0 n ts.toList args).holds P Q) :
  ∃ v h' n' m' w' X,Q (v,h',n')/\(Builtin.copy_ ts ty xs).run P w = .ok X w'/\Ext base m F n w m' F n' w'/\HR base m' F (look g h') n' w'/\R F w' v n' m' X:=by
 unfold evCopy at hq
 split at hq
 case h_2=>exact hq.elim
 rename_i t tr hts
 split at hq
 case h_2=>exact hq.elim
 rename_i e ht
 split at hq
 case h_2=>exact hq.elim
 rename_i z hz
 cases hz0:Nat.blt 0 z
 ·rw [hz0] at hq; exact hq.elim
 rw [hz0] at hq
 simp only [cond_true] at hq
 split at hq
 case h_2=>exact hq.elim
 rename_i d x rest
 simp only [RL] at hargs
 obtain ⟨S,r,e1,hS,X,r2,e2,hX,hrest⟩:=hargs
 have hts0:ts[0]? = some t:=by rw [<- Array.getElem?_toList,hts]; rfl
 have hxs0:xs[0]? = some S:=by rw [<- Array.getElem?_toList,e1]; rfl
 have hxs1:xs[1]? = some X:=by rw [<- Array.getElem?_toList,e1,e2]; rfl
 have hzpos:0 < z:=by simpa [Nat.blt_eq] using hz0
 obtain ⟨i0,hi,hsz⟩:=ZdE hz
 have hS':=JV hS
 have none_:∀ (a:Option Addr),S = .slice a 0 0->(match rowsOf (look g h0) z x with | some _=>Tree.leaf (V.int true .i64 0,h0,n) | none=>.stuck).holds P Q ->
   ∃ v h' n' m' w' X,Q (v,h',n')/\(Builtin.copy_ ts ty xs).run P w = .ok X w'/\Ext base m F n w m' F n' w'/\HR base m' F (look g h') n' w'/\R F w' v n' m' X:=by
  intro a hSa hq
  subst hSa
  cases hrows:rowsOf (look g h0) z x with
  | none=>rw [hrows] at hq; exact hq.elim
  | some r=>
   obtain ⟨st',mm,new⟩:=r
   rw [hrows] at hq
   obtain ⟨a',c',rfl,hnew⟩:=Zdo hr hX hrows
   refine ⟨_,_,n,m,w,.int .i64 0,hq,?_,Ext.refl _ _ _ _ _,hr,by rw [Z9]⟩
   cases a <;> cases a' <;> simp [Builtin.copy_,hts0,hxs0,hxs1,run_underlying ht,Builtin.lenOf,sizeOf,typeInfo,hi,Builtin.firstCells,loadCells,loadCellsFrom,storeCells,goInt]
 cases hp:d.Xo <;> rw [hp] at hq hS' <;> try exact hq.elim
 case Zz=>simp only [R] at hS'; exact none_ _ hS' hq
 case esl=>simp only [R] at hS'; obtain ⟨a,hS',_⟩:=hS'; exact none_ a hS' hq
 rename_i st b es i k
 dsimp only at hq
 cases he:Nat.beq z es
 ·rw [he] at hq; exact hq.elim
 rw [he] at hq
 obtain rfl:=Nat.eq_of_beq_eq_true he
 simp only [cond_true] at hq
 cases hrows:rowsOf (look g h0) z x with
 | none=>rw [hrows] at hq; exact hq.elim
 | some r=>
  obtain ⟨st',mm,new⟩:=r
  rw [hrows] at hq
  obtain ⟨hle,hq⟩:=Zh3 hq
  rw [Tree.Ya] at hq
  rw [Yb] at hS'
  obtain ⟨hbn,a,cap,rfl,hk,hcap⟩:=hS'
  obtain ⟨a',c',rfl,hnew⟩:=Zdo hr hX hrows
  have hmin:Nat.min mm k = mm:=Nat.min_eq_left hle
  rcases Nat.eq_zero_or_pos mm with hm0 | hm0
  ·subst hm0
   have h1:=Ze1 hq
   refine ⟨_,_,n,m,w,.int .i64 0,h1,?_,Ext.refl _ _ _ _ _,by rw [Zes]; exact hr,by rw [Xw,Z9]; rfl⟩
   cases a <;> cases a' <;> simp [Builtin.copy_,hts0,hxs0,hxs1,run_underlying ht,Builtin.lenOf,sizeOf,typeInfo,hi,Builtin.firstCells,loadCells,loadCellsFrom,storeCells,goInt]
  ·rcases hcap with h0 | ⟨B,c0,el,fr,rfl,hB,hc0,hsz0⟩
   ·omega
   rcases hnew with h0 | ⟨ad,L,rfl,hL,hLc⟩
   ·omega
   obtain ⟨blk,w',h1,h2,h3,h4⟩:=ZeX hr hbn hB hzpos hL hq
   have hfc:=run_firstCells_some (P:=P) w z mm ad mm c' L hL.1 hLc
   refine ⟨_,_,n,m,w',.int .i64 mm,h1,?_,h4,h3 _ (fun c=>ZR _ _ _ _ _),by rw [Xw,Z9]⟩
   simp [Builtin.copy_,hts0,hxs0,hxs1,run_underlying ht,Builtin.lenOf,sizeOf,typeInfo,hi,hsz,hmin,hfc,h2,goInt]
theorem ZbT (n z k:Nat):V5 n z k = .osl true n z 0 k\/k = 0/\V5 n z k = .esl true z:=by
 unfold V5
 cases h:Nat.beq k 0
 ·exact .inl rfl
 ·exact .inr ⟨Nat.eq_of_beq_eq_true h,rfl⟩
theorem fits_of {k b:Nat} (h:Qb k b = true):fits k b:=by
 unfold Qb at h
 simp only [Bool.and_eq_true,Nat.ble_eq] at h
 exact h
theorem Zih {z:Nat} {e:TypeId} {zero:V} (hz:ZB P e = some z) (hzero:Xc P e = some zero) (hzl:Nat.beq zero.len z = true) :
  ∃ i0 zv,P.info? e = some i0/\i0.size = z/\i0.zero = some zv/\zv.cells.size = z/\RL F w zero n m zv.cells.toList/\∀ by_,KI P e = some by_->i0.bytes = by_:=by
 obtain ⟨i0,hi,hsz⟩:=ZdE hz
 obtain ⟨zv,hzv⟩:=JN (F:=F) (w:=w) (n:=n) (m:=m) hzero
 have hzv':i0.zero = some zv:=by
  have h:=hzero
  unfold Xc at h
  rw [hi] at h
  dsimp only at h
  cases hiz:i0.zero with
  | none=>rw [hiz] at h; cases h
  | some q=>
   have h1:=hzv.1
   simp only [zeroValue,typeInfo,Sem.run_bind,run_program,Result.andThen_ok,hi,hiz,Sem.run_pure] at h1
   injection h1 with h1 _
   rw [h1]
 refine ⟨i0,zv,hi,hsz,hzv',?_,hzv.2,fun by_ hby=>by unfold KI at hby; rw [hi] at hby; injection hby⟩
 have h1:=Nat.eq_of_beq_eq_true hzl
 rw [Y5 _ _ hzv.2] at h1
 simpa using h1
theorem ZiW {t:TypeId} {len cap cs:V} {xl xc:Value} {z k:Nat} (hl:R F w len n m xl) (hc:R F w cap n m xc) (h:UW P t len cap = some (z,k,cs)) :
  ∃ outc e,(Instr.makeSlice t xl xc).run P w = .ok (.slice (some ⟨w.heap.size,0,none⟩) k k) (w.alloc (.cells outc e))/\RL F w cs n m outc.toList/\outc.size = k * z:=by
 unfold UW at h
 split at h
 case h_2=>cases h
 rename_i e ht
 split at h
 case h_2=>cases h
 rename_i z0 zero by_ hz hzero hby
 cases hzl:Nat.beq zero.len z0
 ·rw [hzl] at h; cases h
 cases hz0:Nat.blt 0 z0
 ·rw [hzl,hz0] at h; cases h
 rw [hzl,hz0] at h
 simp only [Bool.and_self,cond_true] at h
 have hzpos:0 < z0:=by simpa [Nat.blt_eq] using hz0
 split at h
 case h_2=>cases h
 rename_i kl k0
 split at h
 case h_2=>cases h
 rename_i kc k1
 cases hd:(Nat.beq k0 k1&&Qb k0 by_)
 ·rw [hd] at h; cases h
 rw [hd] at h
 simp only [cond_true,Option.some.injEq,Prod.mk.injEq] at h
 obtain ⟨rfl,rfl,rfl⟩:=h
 simp only [Bool.and_eq_true] at hd
 obtain rfl:=Nat.eq_of_beq_eq_true hd.1
 obtain ⟨hf1,hf2⟩:=fits_of hd.2
 rw [Z9] at hl hc
 subst hl; subst hc
 obtain ⟨i0,zv,hi,hsz,hzv',hzs,hzr,hb⟩:=Zih (F:=F) (w:=w) (n:=n) (m:=m) hz hzero hzl
 have hbytes:=hb _ hby
 have hb':(i0.bytes:Int) * (k0:Int)<=281474976710656:=by
  have h:((i0.bytes * k0:Nat):Int)<=281474976710656:=by rw [hbytes,Nat.mul_comm]; omega
  rwa [Int.natCast_mul] at h
 have hrun:=run_make (P:=P) w t e i0 zv ht hi hzv' kl kc (k0:Int) (k0:Int) (by omega) (Int.le_refl _) hb' (by omega)
 simp only [Int.toNat_natCast,hsz] at hrun
 refine ⟨madeCells zv.cells (k0 * z0),e,hrun,?_,by simp [madeCells]⟩
 have h:=ZcG (k:=k0) hzpos hzs hzr
 have e1:(madeCells zv.cells (k0 * z0)) = Builtin.zeroCells zv.cells k0:=by simp [madeCells,Builtin.zeroCells,hzs]
 rw [e1]
 exact Rows.cat k0 _ h
theorem Zmy (t u ty e:TypeId) (i:TypeInfo) (z:Value) (k k':IntKind) (ht:P.underlying t = some (.slice e)) (hu:P.underlying u = some (.int k)) (hi:P.info? e = some i) (hz:i.zero = some z)
  (j:Nat) (h0:0 < j) (hs:0 < i.size) (h63:(j:Int)<=9223372036854775807) (h48:j * i.bytes<=281474976710656) :
  (Builtin.append_ #[t,u] ty #[.slice none 0 0,.int k' j]).run P w =
   .ok (.slice (some ⟨w.heap.size,0,none⟩) j (grownCap w j 0 e)) (w.drew.alloc (.cells (Builtin.zeroCells z.cells j ++ Builtin.zeroCells z.cells (grownCap w j 0 e - j)) e)):=by
 have hn:j ≠ 0:=by omega
 have h63':¬ (9223372036854775807 < (j:Int)):=by omega
 have h48':¬ (281474976710656 < Builtin.nextslicecap j 0 * i.bytes):=by rw [nextslicecap_zero h0]; omega
 have hw:IntKind.i64.wrap (j:Int) = j:=IntWalk.i64_in _ ⟨by omega,by omega⟩
 have hb:¬ (281474976710656 < (j:Int) * (i.bytes:Int)):=by
  have:((j * i.bytes:Nat):Int)<=281474976710656:=by omega
  rw [Int.natCast_mul] at this; omega
 have hjs:j * i.size ≠ 0:=Nat.ne_of_gt (Nat.mul_pos h0 hs)
 have hjs2:¬ i.size = 0:=by omega
 have hneg:¬ ((j:Int) < 0):=by omega
 simp [hneg,hjs,Builtin.append_,run_underlying ht,run_underlying hu,sizeOf,typeInfo,zeroValue,hi,hz,asInt,asIntOf,hw,hn,hb,hjs2,h63',h48',Question.forced,run_firstCells_none,newRow,grownCap]
theorem ZiR (hr:HR base m F (look g h0) n w) {ts:Array TypeId} {ty:TypeId} {k':IntKind} {j:Nat} {xs:Array Value} (hargs:xs.toList = [.slice none 0 0,.int k' j]) {Q:V×PT Blk×Nat->Prop}
  (hq:(ZeW P h0 n ts.toList j).holds P Q) :
  ∃ v h' n' m' w' X,Q (v,h',n')/\(Builtin.append_ ts ty xs).run P w = .ok X w'/\Ext base m F n w m' F n' w'/\HR base m' F (look g h') n' w'/\R F w' v n' m' X:=by
 unfold ZeW at hq
 split at hq
 case h_2=>exact hq.elim
 rename_i t t' hts
 split at hq
 case h_2=>exact hq.elim
 rename_i k hu
 split at hq
 case h_2=>exact hq.elim
 rename_i e ht
 split at hq
 case h_2=>exact hq.elim
 rename_i z zero by_ hz hzero hby
 cases hzl:Nat.beq zero.len z
 ·rw [hzl] at hq; exact hq.elim
 cases hz0:Nat.blt 0 z
 ·rw [hzl,hz0] at hq; exact hq.elim
 cases hj0:Nat.blt 0 j
 ·rw [hzl,hz0,hj0] at hq; exact hq.elim
 cases hjf:Qb j by_
 ·rw [hzl,hz0,hj0,hjf] at hq; exact hq.elim
 rw [hzl,hz0,hj0,hjf] at hq
 simp only [Bool.and_self,cond_true] at hq
 have hzpos:0 < z:=by simpa [Nat.blt_eq] using hz0
 have hjpos:0 < j:=by simpa [Nat.blt_eq] using hj0
 obtain ⟨hf1,hf2⟩:=fits_of hjf
 have hxs:xs = #[.slice none 0 0,.int k' j]:=by apply Array.ext'; simpa using hargs
 have hts':ts = #[t,t']:=by apply Array.ext'; simpa using hts
 subst hxs; subst hts'
 obtain ⟨i0,zv,hi,hsz,hzv',hzs,hzr,hb⟩:=Zih (F:=F) (w:=w) (n:=n) (m:=m) hz hzero hzl
 have hbytes:=hb _ hby
 have hrun:=Zmy (P:=P) (w:=w) t t' ty e i0 zv k k' ht hu hi hzv' j hjpos (by omega) (by omega) (by rw [hbytes]; omega)
 have hdrew:Later F w F w.drew:=⟨fun _ h=>h,fun _ h=>.inl h,fun _ _=>rfl,Nat.le_refl _,fun hd B hB=>hd B hB,⟨rfl,rfl,rfl⟩⟩
 have hr2:=hr.later hdrew
 have hrows:=ZcG (k:=j) hzpos hzs hzr
 obtain ⟨k1,k2⟩:=hr2.layO (h':=look g (h0.set n (.var (Xx (fun _=>zero) j)))) (nm:=n) (n':=n + 1) (blk:=.var (Xx (fun _=>zero) j)) (o:=.cells (Builtin.zeroCells zv.cells j ++ Builtin.zeroCells zv.cells (grownCap w j 0 e - j)) e)
  (hr2.new n (Nat.le_refl _)) (by omega) (by omega) (fun b h1 h2=>by omega) (fun b=>ZR _ _ _ _ _) (fun he=>
   ⟨_,_,e,(Builtin.zeroCells zv.cells j).toList,(Builtin.zeroCells zv.cells (grownCap w j 0 e - j)).toList,rfl,heap_alloc_new w.drew _,by simp,((hr.ext hdrew).trans he).row (Rows.cat j _ hrows)⟩)
 have hge:j<=grownCap w j 0 e:=by simp [grownCap,Question.cut]
 refine ⟨_,_,_,_,_,_,hq,hrun,(hr.ext hdrew).trans k2,k1,?_⟩
 rw [Yb]
 refine ⟨by omega,_,_,rfl,hge,.inr ⟨w.heap.size,_,e,(0,0),by rw [Nat.zero_mul],by simp,heap_alloc_new w.drew _,?_⟩⟩
 simp only [Nat.zero_add,Builtin.zeroCells,Array.size_append,Array.size_map,Array.size_range,hzs]
 rw [<- Nat.add_mul]
 exact Nat.le_of_eq (by congr 1; omega)
theorem ZlQ (hr:HR base m F (look g h0) n w) {ts:Array TypeId} {ty:TypeId} {args:V} {xs:Array Value} (hargs:RL F w args n m xs.toList) {Q:V×PT Blk×Nat->Prop}
  (hq:(Zet P g h0 n ts.toList args).holds P Q) :
  ∃ v h' n' m' w' X,Q (v,h',n')/\(Builtin.append_ ts ty xs).run P w = .ok X w'/\Ext base m F n w m' F n' w'/\HR base m' F (look g h') n' w'/\R F w' v n' m' X:=by
 unfold Zet at hq
 split at hq
 ·rename_i st b es i k c x
  split at hq
  case h_2=>exact hq.elim
  rename_i t t' hts
  cases htt:Nat.beq t t'
  ·rw [htt] at hq; exact hq.elim
  rw [htt] at hq
  obtain rfl:=Nat.eq_of_beq_eq_true htt
  simp only [cond_true] at hq
  split at hq
  case h_2=>exact hq.elim
  rename_i e ht
  simp only [RL] at hargs
  obtain ⟨S,r,e1,hS,X,r',e2,hX,e3⟩:=hargs
  subst e3
  have hxs:xs = #[S,X]:=by apply Array.ext'; rw [e1,e2]
  have htsa:ts = #[t,t]:=by apply Array.ext'; rw [hts]
  subst hxs; subst htsa
  exact Zl1 hr ht hS hX hq
 ·rename_i kk j
  simp only [RL,R] at hargs
  obtain ⟨_,r,e1,rfl,X,r',e2,rfl,e3⟩:=hargs
  subst e3
  exact ZiR hr (k':=kk) (j:=j) (by rw [e1,e2]; rfl) hq
 ·exact ZkP hr hargs hq
theorem Zk3 (hr:HR base m F (look g h0) n w) {t:TypeId} {len cap:V} {xl xc:Value} (hl:R F w len n m xl) (hc:R F w cap n m xc) {Q:V×PT Blk×Nat->Prop}
  (hq:(Zfl P h0 n t len cap).holds P Q) :
  ∃ v h' n' m' w' X,Q (v,h',n')/\(Instr.makeSlice t xl xc).run P w = .ok X w'/\Ext base m F n w m' F n' w'/\HR base m' F (look g h') n' w'/\R F w' v n' m' X:=by
 unfold Zfl at hq
 split at hq
 case h_2=>exact hq.elim
 rename_i e ht
 split at hq
 case h_2=>exact hq.elim
 rename_i z zero by_ hz hzero hby
 cases hzl:Nat.beq zero.len z
 ·rw [hzl] at hq; exact hq.elim
 cases hz0:Nat.blt 0 z
 ·rw [hzl,hz0] at hq; exact hq.elim
 rw [hzl,hz0] at hq
 simp only [Bool.and_self,cond_true] at hq
 have hzpos:0 < z:=by simpa [Nat.blt_eq] using hz0
 split at hq
 case h_2=>exact hq.elim
 rename_i st kl j
 split at hq
 case h_2=>exact hq.elim
 rename_i st' kc j'
 rw [Z9] at hl hc
 subst hl; subst hc
 obtain ⟨i0,hi,hsz⟩:=ZdE hz
 have hbytes:i0.bytes = by_:=by unfold KI at hby; rw [hi] at hby; injection hby
 obtain ⟨zv,hzv⟩:=JN (F:=F) (w:=w) (n:=n) (m:=m) hzero
 have hzv':i0.zero = some zv:=by
  have h:=hzero
  unfold Xc at h
  rw [hi] at h
  dsimp only at h
  cases hiz:i0.zero with
  | none=>rw [hiz] at h; cases h
  | some q=>
   have h1:=hzv.1
   simp only [zeroValue,typeInfo,Sem.run_bind,run_program,Result.andThen_ok,hi,hiz,Sem.run_pure] at h1
   injection h1 with h1 _
   rw [h1]
 have hzs:zv.cells.size = z:=by
  have h1:=Nat.eq_of_beq_eq_true hzl
  rw [Y5 _ _ hzv.2] at h1
  simpa using h1
 have main:∀ k:Nat,j = (k:Int)->j' = (k:Int)->fits k by_->∀ (blk:Blk) (v:V),(∀ (w':World) (m':Nat->Option Nat),Ext base m F n w m' F (n + 1) w'->w'.heap[w.heap.size]? = some (.cells (madeCells zv.cells (k * z)) e)->RB F w' (n + 1) m' blk (some w.heap.size))->(v = .osl (st&&st') n z 0 k\/k = 0/\v = .esl true z) ->
   Q (v,h0.set n blk,n + 1)->∃ v h' n' m' w' X,Q (v,h',n')/\(Instr.makeSlice t (.int kl j) (.int kc j')).run P w = .ok X w'/\Ext base m F n w m' F n' w'/\HR base m' F (look g h') n' w'/\R F w' v n' m' X:=by
  intro k hj hj' hf blk v hrb hv hQ
  obtain ⟨hf1,hf2⟩:=hf
  have hb':(i0.bytes:Int) * (k:Int)<=281474976710656:=by
   have h:((i0.bytes * k:Nat):Int)<=281474976710656:=by rw [hbytes,Nat.mul_comm]; omega
   rwa [Int.natCast_mul] at h
  have hrun:=run_make (P:=P) w t e i0 zv ht hi hzv' kl kc (k:Int) (k:Int) (by omega) (Int.le_refl _) hb' (by omega)
  simp only [Int.toNat_natCast,hsz] at hrun
  obtain ⟨k1,k2⟩:=hr.layO (h':=look g (h0.set n blk)) (nm:=n) (n':=n + 1) (blk:=blk) (o:=.cells (madeCells zv.cells (k * z)) e) (hr.new n (Nat.le_refl _)) (by omega) (by omega) (fun b h1 h2=>by omega) (fun b=>ZR _ _ _ _ _) (fun he=>hrb _ _ he (heap_alloc_new w _))
  refine ⟨v,_,_,_,_,_,hQ,by rw [hj,hj']; exact hrun,k2,k1,?_⟩
  rcases hv with hv | ⟨rfl,hv⟩
  ·rw [hv,Yb]
   refine ⟨by omega,_,_,rfl,Nat.le_refl _,.inr ⟨w.heap.size,_,e,(0,0),by rw [Nat.zero_mul],by simp,heap_alloc_new w _,?_⟩⟩
   simp [madeCells]
  ·rw [hv]; simp only [R]; exact ⟨_,rfl,fun _ h=>by cases h⟩
 have rows:∀ k,Rows F w n m z k (fun _=>zero) (madeCells zv.cells (k * z)).toList:=by
  intro k
  have h:=ZcG (k:=k) hzpos hzs hzv.2
  have e:(madeCells zv.cells (k * z)) = Builtin.zeroCells zv.cells k:=by simp [madeCells,Builtin.zeroCells,hzs]
  rw [e]; exact h
 cases hss:st&&st'
 ·rw [hss] at hq
  dsimp only at hq
  obtain ⟨⟨h0',hjj,hf⟩,hq⟩:=hq
  refine main j.toNat (by omega) (by omega) hf _ _ (fun w' m' he hcell=>?_) (.inl (by rw [hss])) hq
  refine .inr ⟨_,_,e,rfl,hcell,by simp [madeCells],fun q hq'=>?_⟩
  obtain ⟨xs,g1,g2,g3⟩:=(rows j.toNat).2 q hq'
  refine ⟨xs,?_,g2,fun r hr'=>by rw [<- g3 r hr']; simp⟩
  obtain ⟨z2,hz2⟩:=JN (F:=F) (w:=w') (n:=0) (m:=fun _=>none) hzero
  have:z2 = zv:=by
   have h1:=hz2.1
   simp only [zeroValue,typeInfo,Sem.run_bind,run_program,Result.andThen_ok,hi,hzv',Sem.run_pure] at h1
   injection h1 with h1 _
   exact h1.symm
  subst this
  have hxs:xs = z2.cells.toList:=by
   apply List.ext_getElem?
   intro r
   by_cases hr':r < z
   ·rw [<- g3 r hr']
    have hmul:(q + 1) * z<=j.toNat * z:=Nat.mul_le_mul_right z hq'
    rw [Nat.add_mul,Nat.one_mul] at hmul
    have hmod:(q * z + r) % z = r:=by rw [Nat.mul_comm,Nat.mul_add_mod,Nat.mod_eq_of_lt hr']
    simp only [madeCells,Array.getElem?_toList]
    rw [Array.getElem?_map,Array.getElem?_range,if_pos (by omega)]
    simp only [Option.map_some,hzs,hmod]
    rw [getElem!_pos z2.cells r (by omega),Array.getElem?_eq_getElem (by omega)]
   ·rw [List.getElem?_eq_none (by omega),List.getElem?_eq_none (by simp; omega)]
  rw [hxs]
  exact hz2.2
 ·rw [hss] at hq
  dsimp only at hq
  cases j with
  | negSucc _=>exact hq.elim
  | ofNat k=>
   dsimp only at hq
   cases hd:(decide (Int.ofNat k = j')&&Qb k by_)
   ·rw [hd] at hq
    simp only [cond_false] at hq
    cases j' with
    | negSucc _=>exact hq.elim
    | ofNat c=>
    dsimp only at hq
    cases hd2:(Nat.blt k c&&Qb c by_)
    ·rw [hd2] at hq; exact hq.elim
    rw [hd2] at hq
    simp only [Bool.and_eq_true] at hd2
    have hkc:k < c:=by simpa [Nat.blt_eq] using hd2.1
    obtain ⟨hf1,hf2⟩:fits c by_:=by
     have:=hd2.2
     unfold Qb at this
     simp only [Bool.and_eq_true,Nat.ble_eq] at this
     exact this
    have hb':(i0.bytes:Int) * (c:Int)<=281474976710656:=by
     have h:((i0.bytes * c:Nat):Int)<=281474976710656:=by rw [hbytes,Nat.mul_comm]; omega
     rwa [Int.natCast_mul] at h
    have hrun:=run_make (P:=P) w t e i0 zv ht hi hzv' kl kc (k:Int) (c:Int) (by omega) (by omega) hb' (by omega)
    simp only [Int.toNat_natCast,hsz] at hrun
    have hrb:∀ (w':World) (m':Nat->Option Nat),Ext base m F n w m' F (n + 1) w'->w'.heap[w.heap.size]? = some (.cells (madeCells zv.cells (c * z)) e)->RB F w' (n + 1) m' (.var (Xx (fun _=>zero) c)) (some w.heap.size):=fun w' m' he hcell=>
     ⟨_,_,e,(madeCells zv.cells (c * z)).toList,[],rfl,hcell,by simp,he.row (Rows.cat c _ (rows c))⟩
    obtain ⟨k1,k2⟩:=hr.layO (h':=look g (h0.set n (.var (Xx (fun _=>zero) c)))) (nm:=n) (n':=n + 1) (blk:=.var (Xx (fun _=>zero) c)) (o:=.cells (madeCells zv.cells (c * z)) e) (hr.new n (Nat.le_refl _)) (by omega) (by omega) (fun b h1 h2=>by omega) (fun b=>ZR _ _ _ _ _) (fun he=>hrb _ _ he (heap_alloc_new w _))
    refine ⟨_,_,_,_,_,_,hq,hrun,k2,k1,?_⟩
    rw [QX]
    exact ⟨by omega,_,_,rfl,Nat.le_of_lt hkc,Nat.le_refl _,.inr ⟨w.heap.size,_,e,(0,0),by rw [Nat.zero_mul],by simp,heap_alloc_new w _,by simp [madeCells]⟩⟩
   rw [hd] at hq
   simp only [Bool.and_eq_true,decide_eq_true_eq] at hd
   have hf:fits k by_:=by
    have:=hd.2
    unfold Qb at this
    simp only [Bool.and_eq_true,Nat.ble_eq] at this
    exact this
   refine main k rfl hd.1.symm hf _ _ (fun w' m' he hcell=>?_) (by rw [hss]; exact ZbT n z k) hq
   exact ⟨_,_,e,(madeCells zv.cells (k * z)).toList,[],rfl,hcell,by simp,he.row (Rows.cat k _ (rows k))⟩
end
end Go.Fw
namespace Go.Fw
section
variable {P:Program} {base:Nat} {m:Nat->Option Nat} {F:Nat->Prop} {h:Nat->Blk} {n:Nat} {w:World} {a:Act}
theorem ZgN (hr:HR base m F h n w) {st:Bool} {b es i o z B:Nat} {v:V} {y:Value} (hb:b < n) (hB:m b = some B) (hv:R F w v n m y)
  (hs:v.solid = true) (hz:y.cells.size = z) (hc:v.cells.Xp = true) {Q:Blk->Prop} (hq:(U6 (h b) st es i o z v).holds P Q) :
  ∃ blk w',Q blk/\(storeCells ⟨B,i * es + o,none⟩ y.cells.toList).run P w = .ok () w'/\(∀ h':Nat->Blk,(∀ c,h' c = if c = b then blk else h c)->HR base m F h' n w')/\Ext base m F n w m F n w':=by
 have hcells:=Ud v y hv hs
 have hone:=Zga (ZgZ _ _ hcells hc)
 have hblk:=hr.blk b hb
 cases hh:h b with
 | none=>rw [hh] at hq; exact hq.elim
 | any=>rw [hh] at hq; exact hq.elim
 | rng=>rw [hh] at hq; exact hq.elim
 | Ze=>rw [hh] at hq; exact hq.elim
 | iter=>rw [hh] at hq; exact hq.elim
 | var cs=>
  rw [hh] at hq hblk
  obtain ⟨B',xs,el,ys,zs,hm,hcell,hsp,hrow⟩:=hblk
  obtain rfl:B = B':=by rw [hB] at hm; injection hm
  unfold U6 at hq
  dsimp only at hq
  rw [Y5 _ _ hrow] at hq
  cases st with
  | false=>exact hq.elim
  | true=>
   cases hle:Nat.ble (i * es + o + z) ys.length
   ·rw [hle] at hq; exact hq.elim
   ·rw [hle] at hq
    have hley:i * es + o + z<=ys.length:=Nat.le_of_ble_eq_true hle
    have hle':i * es + o + z<=xs.size:=Nat.le_trans hley (KY hsp)
    have hrun:=run_storeCells_at P B (i * es + o) el y.cells.toList 0 xs w hcell (by simp [hz]; omega) hone
    simp only [Nat.add_zero] at hrun
    rw [ZcO _ _ _ (by simp [hz]; omega)] at hrun
    have ht:=fun h' hh'=>hr.turn (h':=h') hm hcell (new:=(YU xs.toList (i * es + o) y.cells.toList).toArray) (by simp [Wu]) (by rw [hh]; simp) (blk:=.var (cs.splice (i * es + o) v.cells)) hh' (fun hrl=>
     ⟨B,_,el,YU ys (i * es + o) y.cells.toList,zs,rfl,setRow_heap w B _ _ el _ hcell,by rw [List.toList_toArray,hsp,Ziw _ _ _ _ (by simp [hz]; omega)],Zb0 cs _ (hrl _ _ _ _ hrow) (i * es + o) v.cells _ (hrl _ _ _ _ hcells)⟩)
    exact ⟨_,_,hq,by simpa using hrun,fun h' hh'=>(ht h' hh').1,(ht (fun c=>if c = b then _ else h c) (fun _=>rfl)).2⟩
 | arr es' k get=>
  rw [hh] at hq hblk
  unfold U6 at hq
  dsimp only at hq
  cases he:Nat.beq es es'
  ·rw [he] at hq; exact hq.elim
  ·cases hle:Nat.ble (o + z) es
   ·rw [he,hle] at hq; exact hq.elim
   cases hcl:v.clean
   ·rw [he,hle,hcl] at hq; exact hq.elim
   ·rw [he,hle,hcl] at hq
    obtain rfl:=Nat.eq_of_beq_eq_true he
    have hle':=Nat.le_of_ble_eq_true hle
    have hik:i < k/\Q (.arr es k fun j=>bif Nat.beq j i then (get i).splice o v.cells else get j):=by
     simp only [Bool.and_self,cond_true,atIdx] at hq
     cases st with
     | false=>exact hq
     | true=>
      dsimp only at hq
      cases hlt:Nat.blt i k
      ·rw [hlt] at hq; exact hq.elim
      ·rw [hlt] at hq; exact ⟨by simpa [Nat.blt_eq] using hlt,hq⟩
    obtain ⟨hik,hq⟩:=hik
    obtain ⟨B',c,el,hm,hcell,hsz,hrow⟩:=hblk.resolve_left (fun h0=>by have:=h0.1; omega)
    obtain rfl:B = B':=by rw [hB] at hm; injection hm
    have hcells0:=Ud v y ((WU v hcl n 0 m (fun _=>none)).1 _ hv) hs
    have hmul:i * es + es<=k * es:=by
     have:(i + 1) * es<=k * es:=Nat.mul_le_mul_right es hik
     rwa [Nat.add_mul,Nat.one_mul] at this
    have hrun:=run_storeCells_at P B (i * es + o) el y.cells.toList 0 c w hcell (by simp [hz]; omega) hone
    simp only [Nat.add_zero] at hrun
    rw [ZcO _ _ _ (by simp [hz]; omega)] at hrun
    have ht:=fun h' hh'=>hr.turn (h':=h') hm hcell (new:=(YU c.toList (i * es + o) y.cells.toList).toArray) (by simp [Wu]) (by rw [hh]; simp) (blk:=.arr es k fun j=>bif Nat.beq j i then (get i).splice o v.cells else get j) hh' (fun hrl=>by
     refine .inr ⟨B,_,el,rfl,setRow_heap w B _ _ el _ hcell,by simp [Wu,hsz],fun j hj=>?_⟩
     have hmulj:j * es + es<=k * es:=by
      have:(j + 1) * es<=k * es:=Nat.mul_le_mul_right es hj
      rwa [Nat.add_mul,Nat.one_mul] at this
     obtain ⟨xs,h1,h2,h3⟩:=hrow j hj
     cases hji:Nat.beq j i
     ·have hne:j ≠ i:=fun e=>by subst e; simp at hji
      refine ⟨xs,by dsimp only; rw [hji]; exact hrl _ _ _ _ h1,h2,fun q hq'=>?_⟩
      simp only [List.getElem?_toArray]
      rw [JG _ _ _ _ (by simp; omega),if_neg,<- h3 q hq']
      ·simp
      ·simp only [Array.length_toList,hz]
       rcases Nat.lt_or_gt_of_ne hne with hlt | hlt
       ·have:(j + 1) * es<=i * es:=Nat.mul_le_mul_right es hlt
        rw [Nat.add_mul,Nat.one_mul] at this
        omega
       ·have:(i + 1) * es<=j * es:=Nat.mul_le_mul_right es hlt
        rw [Nat.add_mul,Nat.one_mul] at this
        omega
     ·obtain rfl:=Nat.eq_of_beq_eq_true hji
      refine ⟨YU xs o y.cells.toList,by dsimp only; rw [hji]; exact Zb0 _ _ (hrl _ _ _ _ h1) o _ _ (hrl _ _ _ _ hcells0),by rw [Wu]; exact h2,fun q hq'=>?_⟩
      simp only [List.getElem?_toArray]
      rw [JG _ _ _ _ (by simp; omega),JG _ _ _ _ (by omega)]
      simp only [Array.length_toList,hz]
      by_cases hin2:o<=q/\q < o + z
      ·rw [if_pos (by omega),if_pos hin2]
       congr 1
       omega
      ·rw [if_neg (by omega),if_neg hin2,<- h3 q hq']
       simp)
    exact ⟨_,_,hq,by simpa using hrun,fun h' hh'=>(ht h' hh').1,(ht (fun c=>if c = b then _ else h c) (fun _=>rfl)).2⟩
theorem Zlk {g:Nat->Blk} {h:PT Blk} (hr:HR base m F (look g h) n w) {t:TypeId} {va vv:V} {x y:Value} (ha:R F w va n m x) (hv:R F w vv n m y) {Q:PT Blk->Prop} (hq:(GA P g h t va vv).holds P Q) :
  ∃ h' w',Q h'/\(Instr.storeAt t x y).run P w = .ok () w'/\HR base m F (look g h') n w'/\Ext base m F n w m F n w':=by
 unfold GA at hq
 cases hz:ZB P t with
 | none=>rw [hz] at hq; exact hq.elim
 | some z=>
  rw [hz] at hq
  dsimp only at hq
  cases h1:Nat.beq vv.cells.len z
  ·rw [h1] at hq; exact hq.elim
  ·cases h2:vv.cells.Xp
   ·rw [h1,h2] at hq; exact hq.elim
   ·cases h3:vv.solid
    ·rw [h1,h2,h3] at hq; exact hq.elim
    ·rw [h1,h2,h3] at hq
     simp only [Bool.and_self,cond_true] at hq
     cases va <;> try exact hq.elim
     rename_i st b es i o
     have hlen:y.cells.size = z:=by
      have:=Y5 _ _ (Ud vv y hv h3)
      rw [Nat.eq_of_beq_eq_true h1] at this
      simpa using this.symm
     rw [Xi] at ha
     obtain ⟨hb,B,rfl,hB⟩:=ha
     dsimp only at hq
     rw [Tree.Ya] at hq
     obtain ⟨blk,w',k1,k2,k3,k4⟩:=ZgN hr hb hB hv h3 hlen h2 hq
     refine ⟨_,w',k1,?_,k3 _ (fun c=>ZR _ _ _ _ _),k4⟩
     simp only [Instr.storeAt,Instr.sureAddr,pure_bind,storeVar,Sem.run_bind,Y9 hz,Result.andThen_ok]
     rw [if_neg (by simp [hlen])]
     exact k2
end
def V7 (E:Env) (call:YL):Prop:=
 ∀ (hb:Nat->Blk) (c:FuncId ⊕ Nat) (args:V) (h:PT Blk) (n:Nat) (base:Nat) (m:Nat->Option Nat) (F:Nat->Prop) (w:World) (xs:Array Value) (Q:V×PT Blk×Nat->Prop) (K:Ending->World->Prop),
  HR base m F (look hb h) n w->RL F w args n m xs.toList->(call hb c args h n).holds E.P Q ->
  (∀ v h' n',Q (v,h',n')->∀ m' F' w' x,Ext base m F n w m' F' n' w'->HR base m' F' (look hb h') n' w'->R F' w' v n' m' x->K (.returned x) w') ->
  match c with
  | .inl g=>Has E.P g/\Calls E.P g xs w K
  | .inr b=>∀ l,m b = some l->∃ r,w.heap[l]? = some (.loop r)/\xs.size = r.params.size/\∀ ro,RoundIn (fen ro) 0 E.P l r.fn ((r.params.zip xs).foldl (fun tmps (t,a)=>tmps.setIfInBounds t a) r.tmps) r.assign r.body w K
theorem Rel.put {lo base:Nat} {m:Nat->Option Nat} {F:Nat->Prop} {Bs:Base} {s:St Bs} {a:Act} {w:World} (hr:Rel lo base m F s a w) {dst:Option Tmp} {v:V} {x:Value}
  (hv:R F w v s.n m x) (hd:∀ d,dst = some d->d < s.N):Rel lo base m F (s.put dst v) (a.put dst x) w:=by
 cases dst with
 | none=>exact hr
 | some d=>
  refine ⟨hr.hr,hr.defers,by simp [Act.put,St.put,hr.size],fun i=>?_⟩
  have hlt:d < a.tmps.size:=by rw [hr.size]; exact hd d rfl
  simp only [St.put,St.tmp,Act.put]
  by_cases e:i = d
  ·subst e
   have hget:(a.tmps.setIfInBounds i x).getD i Go.undef = x:=by simp [Array.getD_eq_getD_getElem?,hlt]
   rw [KF,hget]; exact hv
  ·rw [Vo _ _ _ e]
   have hget:(a.tmps.setIfInBounds d x).getD i Go.undef = a.tmps.getD i Go.undef:=by
    simp only [Array.getD_eq_getD_getElem?,Array.getElem?_setIfInBounds_ne (Ne.symm e)]
   rw [hget]
   exact hr.tmp i
theorem Rel.Zg {lo base:Nat} {m:Nat->Option Nat} {F:Nat->Prop} {Bs:Base} {s:St Bs} {a:Act} {w:World} (hr:Rel lo base m F s a w):∀ x,R F w (Zg s x) s.n m (a.eval x)
 | .tmp t=>hr.tmp t
 | .const v=>R_const v
 | .global g=>by
  simp only [Fw.Zg]
  split
  ·rename_i v hg
   obtain ⟨h1,h2,_⟩:=hr.hr.gl g v hg
   exact (WU v h1 0 s.n _ m).1 _ h2
  ·simp only [R]
 | .func f=>by simp only [Fw.Zg,R,Act.eval]; exact ⟨_,_,rfl,by simp only [RL],by simp only [RL]⟩
theorem Rel.move {lo base:Nat} {m m':Nat->Option Nat} {F F':Nat->Prop} {Bs:Base} {s:St Bs} {a:Act} {w w':World} {h':PT Blk} {n':Nat} (hr:Rel lo base m F s a w)
  (he:Ext base m F s.n w m' F' n' w') (hh:HR base m' F' (look Bs.h h') n' w'):Rel lo base m' F' ({ s with h:=h',n:=n' }:St Bs) a w':=
 ⟨hh,Marks.ext hr.defers he,hr.size,fun i=>he.val (hr.tmp i)⟩
theorem Zi4 {E:Env} {call:YL} {Bs:Base} {s:St Bs} {o:Op} {Q:V×PT Blk×Nat->Prop} (hq:(YR E call s o).holds E.P Q):∀ c,o ≠ .defer c:=by
 intro c e
 subst e
 exact hq
theorem Zff {E:Env} (hE:E.Ok) {ro:Option Nat} {call:YL} (hcall:V7 E call) {lo base:Nat} {m:Nat->Option Nat} {F:Nat->Prop} {Bs:Base} {s:St Bs} {a:Act} {w:World}
  (hr:Rel lo base m F s a w) {o:Oper} {Q:V×PT Blk×Nat->Prop} {K:Act->World->Prop} {Qx:Exit->Act->World->Prop} (hq:(YR E call s o.op).holds E.P Q)
  (hK:∀ v h' n',Q (v,h',n')->∀ m' F' w' x,Ext base m F s.n w m' F' n' w'->HR base m' F' (look Bs.h h') n' w'->R F' w' v n' m' x->K (a.put o.dst x) w'):o.wpIn (fen ro) 0 E.P a w K Qx:=by
 have hnd:=Zi4 hq
 unfold YR at hq
 cases hT:evQ E (Zg s) s.blk o.op with
 | some T=>
  rw [hT] at hq
  dsimp only at hq
  rw [Tree.Ya] at hq
  refine XH ?_ hnd
  exact evQ_wp hE hr.hr hr.Zg hT hq fun v x w' F' h1 h2 h3=>hK v s.h s.n h1 m F' w' x (hr.hr.ext h2) (hr.hr.later h2) h3
 | none=>
  rw [hT] at hq
  dsimp only at hq
  cases ho:o.op <;> rw [ho] at hq <;> dsimp only at hq <;> try (exact hq.elim)
  case alloc t=>
   cases hz:Xc E.P t with
   | none=>rw [hz] at hq; exact hq.elim
   | some cs=>
    rw [hz] at hq
    obtain ⟨z,hz1,hz2⟩:=JN (F:=F) (w:=w) (n:=s.n) (m:=m) hz
    obtain ⟨h1,h2⟩:=hr.hr.push (h':=look Bs.h (s.h.set s.n (.var cs))) t hz2 (fun b=>ZR _ _ _ _ _)
    have hrun:(execOp a.eval o).run E.P w = .ok (.value (.pointer (some ⟨w.heap.size,0,none⟩))) (w.alloc (.cells z.cells t)):=by
     simp only [execOp,ho,Instr.alloc,Sem.run_bind,hz1,Result.andThen_ok]
     rfl
    refine XH ?_ hnd
    unfold Oper.wp
    rw [hrun]
    simp only [Oper.upon]
    exact hK _ _ _ hq _ F _ _ h2 h1 (by rw [Xi]; exact ⟨by omega,w.heap.size,by simp,by simp⟩)
  case box t x=>
   cases hs:(Zg s x).solid
   ·rw [hs] at hq; exact hq.elim
   ·rw [hs] at hq
    have hcells:=Ud _ _ (hr.Zg x) hs
    obtain ⟨h1,h2⟩:=hr.hr.push (h':=look Bs.h (s.h.set s.n (.var (Zg s x).cells))) t hcells (fun b=>ZR _ _ _ _ _)
    have hrun:(execOp a.eval o).run E.P w = .ok (.value (.pointer (some ⟨w.heap.size,0,none⟩))) (w.alloc (.cells (a.eval x).cells t)):=by
     simp only [execOp,ho]; rfl
    refine XH ?_ hnd
    unfold Oper.wp
    rw [hrun]
    simp only [Oper.upon]
    exact hK _ _ _ hq _ F _ _ h2 h1 (by rw [Xi]; exact ⟨by omega,w.heap.size,by simp,by simp⟩)
  case buildSlice t len parts=>
   cases hz:KN E.P t len (parts.toList.map fun p=>(p.1,Zg s p.2)) with
   | none=>rw [hz] at hq; exact hq.elim
   | some zc=>
    obtain ⟨z,cs⟩:=zc
    rw [hz] at hq
    obtain ⟨outc,e,hrun,hrow,hsz⟩:=run_buildSlice (E:=E) ho hr.Zg hz
    obtain ⟨h1,h2⟩:=hr.hr.push (h':=look Bs.h (s.h.set s.n (.var cs))) e hrow (fun b=>ZR _ _ _ _ _)
    refine XH ?_ hnd
    unfold Oper.wp
    rw [hrun]
    simp only [Oper.upon]
    refine hK _ _ _ hq _ F _ _ h2 h1 ?_
    rcases ZbT s.n z len with h | ⟨rfl,h⟩
    ·rw [h,Yb]; exact ⟨by omega,_,len,rfl,Nat.le_refl _,.inr ⟨w.heap.size,outc,e,(0,0),by rw [Nat.zero_mul],by simp,heap_alloc_new w _,by rw [Nat.zero_add,hsz]; exact Nat.le_refl _⟩⟩
    ·rw [h]; simp only [R]; exact ⟨_,rfl,fun _ h=>by cases h⟩
  case makeMap t r=>
   cases hz:Vk E.P t (r.map (Zg s)) with
   | none=>rw [hz] at hq; exact hq.elim
   | some blk=>
    rw [hz] at hq
    obtain ⟨hrun0,kd,z,rfl⟩:=ZgL (F:=F) (w:=w) (n:=s.n) (m:=m) (X:=r.map a.eval) hz (fun v hv=>by
     cases r with
     | none=>cases hv
     | some y=>injection hv with hv; subst hv; exact ⟨_,rfl,hr.Zg y⟩) (fun hv=>by cases r with | none=>rfl | some y=>cases hv)
    obtain ⟨h1,h2⟩:=hr.hr.layO (h':=look Bs.h (s.h.set s.n (.Ze kd true (fun _=>(false,z)) (some (0,[]))))) (nm:=s.n) (n':=s.n + 1) (o:=.map #[] 0) (hr.hr.new s.n (Nat.le_refl _)) (by omega) (by omega) (fun b h1 h2=>by omega) (fun b=>ZR _ _ _ _ _) (fun _=>Zgr (heap_alloc_new w _))
    have hrun:(execOp a.eval o).run E.P w = .ok (.value (.map (some w.heap.size))) (w.alloc (.map #[] 0)):=by
     simp only [execOp,ho,Sem.run_bind,hrun0,Result.andThen_ok]
     rfl
    refine XH ?_ hnd
    unfold Oper.wp
    rw [hrun]
    simp only [Oper.upon]
    exact hK _ _ _ hq _ F _ _ h2 h1 (by simp only [R]; exact ⟨by omega,w.heap.size,rfl,by simp⟩)
  case makeSlice t len cap=>
   obtain ⟨v,h',n',m',w',X,q1,q2,q3,q4,q5⟩:=Zk3 (P:=E.P) hr.hr (hr.Zg len) (hr.Zg cap) hq
   have hrun:(execOp a.eval o).run E.P w = .ok (.value X) w':=by
    simp only [execOp,ho,Sem.run_bind,q2,Result.andThen_ok]; rfl
   refine XH ?_ hnd
   unfold Oper.wp
   rw [hrun]
   simp only [Oper.upon]
   exact hK v h' n' q1 m' F w' X q3 q4 q5
  case range t x=>
   cases hz:Zck E.P s.blk t (Zg s x) with
   | none=>rw [hz] at hq; exact hq.elim
   | some blk=>
    rw [hz] at hq
    obtain ⟨ob,hrun0,hrb⟩:=Zmr hr.hr (hr.Zg x) hz
    obtain ⟨h1,h2⟩:=hr.hr.layO (h':=look Bs.h (s.h.set s.n blk)) (nm:=s.n) (n':=s.n + 1) (o:=ob) (hr.hr.new s.n (Nat.le_refl _)) (by omega) (by omega) (fun b h1 h2=>by omega) (fun b=>ZR _ _ _ _ _) (fun he=>hrb _ _ _ (by omega) (fun b hb B hB=>he.map b hb B hB) (heap_alloc_new w _))
    have hrun:(execOp a.eval o).run E.P w = .ok (.value (.pointer (some ⟨w.heap.size,0,none⟩))) (w.alloc ob):=by
     simp only [execOp,ho,Sem.run_bind,hrun0,Result.andThen_ok]
     rfl
    refine XH ?_ hnd
    unfold Oper.wp
    rw [hrun]
    simp only [Oper.upon]
    exact hK _ _ _ hq _ F _ _ h2 h1 (by rw [Xi]; exact ⟨by omega,w.heap.size,by simp,by simp⟩)
  case entry it=>
   rw [Tree.Ya] at hq
   refine XH ?_ hnd
   refine XE (by simp only [execOp,ho]) (Zmi hr.hr (hr.Zg it)) hq fun v x w' F' h1 h2 h3=>hK v s.h s.n h1 m F' w' x (hr.hr.ext h2) (hr.hr.later h2) h3
  case next it str=>
   rw [Tree.Ya] at hq
   obtain ⟨v,wr,w',X,q1,q2,q3,q4,q5⟩:=Zlo (P:=E.P) hr.hr (hr.Zg it) o.type hq
   have hrun:(execOp a.eval o).run E.P w = .ok (.value X) w':=by
    simp only [execOp,ho,Sem.run_bind,q2,Result.andThen_ok]; rfl
   refine XH ?_ hnd
   unfold Oper.wp
   rw [hrun]
   simp only [Oper.upon]
   cases wr with
   | none=>exact hK v s.h s.n q1 m F w' X q3 (q4 _ fun c=>rfl) q5
   | some bb=>exact hK v _ s.n q1 m F w' X q3 (q4 _ fun c=>ZR _ _ _ _ _) q5
  case mapUpdate t mx k x=>
   cases hz:XM E.P s.blk t (Zg s mx) (Zg s k) (true,Zg s x) with
   | none=>rw [hz] at hq; exact hq.elim
   | some bb=>
    obtain ⟨b,blk⟩:=bb
    rw [hz] at hq
    obtain ⟨w',hrun0,k1,k2⟩:=(ZaL hr.hr (hr.Zg mx) (hr.Zg k) hz).1 _ rfl (hr.Zg x)
    have hrun:(execOp a.eval o).run E.P w = .ok .skip w':=by
     simp only [execOp,ho,Sem.run_bind,hrun0,Result.andThen_ok,Sem.run_pure]
    refine XH ?_ hnd
    unfold Oper.wp
    rw [hrun]
    simp only [Oper.upon]
    exact hK _ _ _ hq m F w' _ k2 (k1 _ fun c=>ZR _ _ _ _ _) (by simp only [R])
  case insert t mx k x=>
   cases hz:XM E.P s.blk t (Zg s mx) (Zg s k) (true,Zg s x) with
   | none=>rw [hz] at hq; exact hq.elim
   | some bb=>
    obtain ⟨b,blk⟩:=bb
    rw [hz] at hq
    obtain ⟨w',hrun0,k1,k2⟩:=(ZaL hr.hr (hr.Zg mx) (hr.Zg k) hz).1 _ rfl (hr.Zg x)
    have hrun:(execOp a.eval o).run E.P w = .ok .skip w':=by
     simp only [execOp,ho,Sem.run_bind,hrun0,Result.andThen_ok,Sem.run_pure]
    refine XH ?_ hnd
    unfold Oper.wp
    rw [hrun]
    simp only [Oper.upon]
    exact hK _ _ _ hq m F w' _ k2 (k1 _ fun c=>ZR _ _ _ _ _) (by simp only [R])
  case store t x y=>
   rw [Tree.Ya] at hq
   obtain ⟨h',w',h1,h2,h3,h4⟩:=Zlk hr.hr (hr.Zg x) (hr.Zg y) hq
   have hrun:(execOp a.eval o).run E.P w = .ok .skip w':=by
    simp only [execOp,ho,Sem.run_bind,h2,Result.andThen_ok,Sem.run_pure]
   refine XH ?_ hnd
   unfold Oper.wp
   rw [hrun]
   simp only [Oper.upon]
   exact hK _ _ _ h1 m F w' _ h4 h3 (by simp only [R])
  case call c=>
   cases hcal:c.callee <;> rw [hcal] at hq <;> dsimp only at hq <;> try (exact hq.elim)
   case builtin bi=>
    cases bi <;> try (exact hq.elim)
    case delete=>
     dsimp only at hq
     cases hts:c.argTypes.toList with
     | nil=>rw [hts] at hq; exact hq.elim
     | cons t ts=>
      rw [hts] at hq
      dsimp only at hq
      match hca:c.args.toList,hq with
      | [mx,k],hq=>
       dsimp only at hq
       cases hz:XM E.P s.blk t (Zg s mx) (Zg s k) (false,.junk) with
       | none=>rw [hz] at hq; exact hq.elim
       | some bb=>
        obtain ⟨b,blk⟩:=bb
        rw [hz] at hq
        have hts0:c.argTypes[0]? = some t:=by rw [<- Array.getElem?_toList,hts]; rfl
        obtain ⟨w',hrun0,k1,k2⟩:=(ZaL hr.hr (hr.Zg mx) (hr.Zg k) hz).2 rfl 0 c.argTypes hts0
        have hargs:c.args.map a.eval = #[a.eval mx,a.eval k]:=by
         apply Array.ext'
         rw [Array.toList_map,hca]; rfl
        have hrun:=Vd (P:=E.P) (sem:=Builtin.delete_ c.argTypes 0 (c.args.map a.eval)) ho hcal (fun consts ty=>rfl) w
        rw [hargs,hrun0] at hrun
        refine XH ?_ hnd
        unfold Oper.wp
        rw [hrun]
        simp only [Result.andThen_ok,Oper.upon]
        exact hK _ _ _ hq m F w' _ k2 (k1 _ fun c=>ZR _ _ _ _ _) (by simp only [R,RL]; exact ⟨_,rfl,rfl⟩)
    all_goals have hargs:RL F w (.ofList (c.args.toList.map (Zg s))) s.n m (c.args.map a.eval).toList:=(by simpa using Vw (a:=a) hr.Zg c.args.toList)
    case append=>
     obtain ⟨v,h',n',m',w',X,q1,q2,q3,q4,q5⟩:=ZlQ (P:=E.P) (ty:=0) hr.hr hargs hq
     have hrun:=Vd (P:=E.P) (sem:=Builtin.append_ c.argTypes 0 (c.args.map a.eval)) ho hcal (fun consts ty=>rfl) w
     rw [q2] at hrun
     refine XH ?_ hnd
     unfold Oper.wp
     rw [hrun]
     simp only [Result.andThen_ok,Oper.upon]
     exact hK v h' n' q1 m' F w' X q3 q4 q5
    case clear=>
     obtain ⟨v,h',n',m',w',X,q1,q2,q3,q4,q5⟩:=Zl4 (P:=E.P) (ty:=0) hr.hr hargs hq
     have hrun:=Vd (P:=E.P) (sem:=Builtin.clear_ c.argTypes 0 (c.args.map a.eval)) ho hcal (fun consts ty=>rfl) w
     rw [q2] at hrun
     refine XH ?_ hnd
     unfold Oper.wp
     rw [hrun]
     simp only [Result.andThen_ok,Oper.upon]
     exact hK v h' n' q1 m' F w' X q3 q4 q5
    case copy=>
     obtain ⟨v,h',n',m',w',X,q1,q2,q3,q4,q5⟩:=ZiH (P:=E.P) (ty:=0) hr.hr hargs hq
     have hrun:=Vd (P:=E.P) (sem:=Builtin.copy_ c.argTypes 0 (c.args.map a.eval)) ho hcal (fun consts ty=>rfl) w
     rw [q2] at hrun
     refine XH ?_ hnd
     unfold Oper.wp
     rw [hrun]
     simp only [Result.andThen_ok,Oper.upon]
     exact hK v h' n' q1 m' F w' X q3 q4 q5
   rename_i f
   cases hz:Ub E (Zg s) s.blk f c with
   | some T=>
    rw [hz] at hq
    dsimp only at hq
    rw [Tree.Ya] at hq
    refine XH ?_ hnd
    exact Zjp hE ho hcal hr.hr hr.Zg hz hq fun v x w' F' h1 h2 h3=>hK v s.h s.n h1 m F' w' x (hr.hr.ext h2) (hr.hr.later h2) h3
   | none=>
   rw [hz] at hq
   dsimp only at hq
   have hargs:RL F w (.ofList (c.args.toList.map (Zg s))) s.n m (c.args.map a.eval).toList:=by
    simpa using Vw (a:=a) hr.Zg c.args.toList
   have fn_:∀ {g:FuncId} {args:V},callee (Zg s f) (.ofList (c.args.toList.map (Zg s))) = some (g,args)->(call Bs.h (.inl g) args s.h s.n).holds E.P Q->o.wpIn (fen ro) 0 E.P a w K Qx:=by
    intro g args hc hq
    obtain ⟨ys,hy,hy2⟩:=Zfo (P:=E.P) hc (hr.Zg f) hargs
    obtain ⟨hhas,hcalls⟩:=hcall Bs.h (.inl g) args s.h s.n base m F w ys Q
     (fun e w''=>match e with | .returned v=>K (a.put o.dst v) w'' | _=>False) hr.hr hy hq
     (fun v h' n' hQ m' F' w' x h1 h2 h3=>hK v h' n' hQ m' F' w' x h1 h2 h3)
    obtain ⟨hrun,hys⟩:=hy2 w
    have hexec:(execOp a.eval o).run E.P w = .ok (.enter g ys) w:=by
     simp only [execOp,ho,resolve,hcal,Sem.run_bind,hrun,Result.andThen_ok,invoke,ZdR hhas,hys]
    refine XH ?_ hnd
    unfold Oper.wp
    rw [hexec]
    simp only [Oper.upon]
    refine hcalls.mono fun e w' he=>?_
    cases e with
    | returned v=>exact he
    | panicked c=>exact he.elim
    | outgrown=>exact he.elim
   have hf:=hr.Zg f
   cases hv:Zg s f with
   | yld b=>
    rw [hv] at hq hf
    simp only [R] at hf
    obtain ⟨hbn,l,hfe,hml⟩:=hf
    obtain ⟨r,hl,hsz,hround⟩:=hcall Bs.h (.inr b) (.ofList (c.args.toList.map (Zg s))) s.h s.n base m F w (c.args.map a.eval) Q
     (fun e w''=>match e with | .returned v=>K (a.put o.dst v) w'' | _=>False) hr.hr hargs hq
     (fun v h' n' hQ m' F' w' x h1 h2 h3=>hK v h' n' hQ m' F' w' x h1 h2 h3) l hml
    refine ⟨fun _ _=>trivial,?_⟩
    rw [Oper.semAt_eq _ _ _ hnd]
    have hexec:(execOp a.eval o).run E.P w = .ok (.round l r.fn ((r.params.zip (c.args.map a.eval)).foldl (fun tmps (t,a)=>tmps.setIfInBounds t a) r.tmps) r.assign r.body) w:=by
     simp only [execOp,ho,resolve,hcal,hfe,Deferred.ofValue,Sem.run_bind,Sem.run_pure,Result.andThen_ok,invoke,Array.empty_append]
     exact run_yield hl hsz
    rw [hexec]
    refine ⟨Zct ro,(hround ro).mono fun e w' he=>?_⟩
    cases e with
    | returned v=>exact he
    | panicked c=>exact he.elim
    | outgrown=>exact he.elim
   | _=>
    rw [hv] at hq fn_
    simp only [Km] at hq
    split at hq
    ·rename_i heq
     split at heq
     ·rename_i g out hc
      injection heq with heq
      injection heq with e1 e2
      subst e1; subst e2
      exact fn_ hc hq
     ·cases heq
    ·exact hq.elim
theorem VF {N:Nat} {o:Oper} (h:YW N o = true):∀ d,o.dst = some d->d < N:=by
 intro d hd
 unfold YW at h
 rw [hd] at h
 simpa [Nat.blt_eq] using h
def truth (ops:Array Oper) (val:Nat->V) (o:Oper):Option Bool:=
 match o.guard with
 | none=>some true
 | some (j,want)=>match ops[j]? with
  | some p=>match p.dst with
   | some d=>match val d with
    | .bool _ b=>some (b==want)
    | .undef=>some false
    | _=>none
   | none=>some false
  | none=>some false
theorem Zgs {ops:Array Oper} {val:Nat->V} {o:Oper}:match guardOf ops val o with
  | .yes=>truth ops val o = some true
  | .no=>truth ops val o = some false
  | .bad=>True
  | .dyn d b want=>truth ops val o = some (b==want)/\val d = .bool false b:=by
 unfold guardOf truth
 cases o.guard with
 | none=>rfl
 | some gw=>
  obtain ⟨j,want⟩:=gw
  dsimp only
  cases ops[j]? with
  | none=>rfl
  | some p=>
   dsimp only
   cases p.dst with
   | none=>rfl
   | some d=>
    dsimp only
    cases hv:val d <;> try trivial
    rename_i st b
    cases st
    ·exact ⟨rfl,hv⟩
    ·cases b <;> cases want <;> rfl
theorem K5 {ops:Array Oper} {lo base:Nat} {m:Nat->Option Nat} {F:Nat->Prop} {Bs:Base} {s:St Bs} {a:Act} {w:World} (hr:Rel lo base m F s a w) {o:Oper} {r:Bool}
  (h:truth ops s.tmp o = some r):Region.wanted o (yielded ops a.tmps) = r:=by
 unfold truth at h
 unfold Region.wanted
 cases hg:o.guard with
 | none=>rw [hg] at h; injection h
 | some gw=>
  obtain ⟨j,want⟩:=gw
  rw [hg] at h
  dsimp only at h ⊢
  cases hj:ops[j]? with
  | none=>rw [hj] at h; injection h with h; subst h; simp [yielded,hj]
  | some p=>
   rw [hj] at h
   dsimp only at h
   cases hd:p.dst with
   | none=>rw [hd] at h; injection h with h; subst h; simp [yielded,hj,hd]
   | some d=>
    rw [hd] at h
    dsimp only at h
    have ht:=hr.tmp d
    have hy:∀ b,a.tmps.getD d Go.undef = .bool b->yielded ops a.tmps j = some b:=by
     intro b hb
     simp only [yielded,hj,Option.bind_some,hd]
     cases hx:a.tmps[d]? with
     | none=>simp [Array.getD_eq_getD_getElem?,hx,Go.undef] at hb
     | some x=>simp [Array.getD_eq_getD_getElem?,hx] at hb; subst hb; rfl
    have hy0:a.tmps.getD d Go.undef = Go.undef->yielded ops a.tmps j = none:=by
     intro hb
     simp only [yielded,hj,Option.bind_some,hd]
     cases hx:a.tmps[d]? with
     | none=>rfl
     | some x=>simp [Array.getD_eq_getD_getElem?,hx] at hb; subst hb; rfl
    cases hs:s.tmp d <;> rw [hs] at h ht <;> try (cases h; done)
    ·simp only [R] at ht
     injection h with h
     subst h
     simp [hy0 ht]
    ·rename_i st b
     simp only [R] at ht
     injection h with h
     subst h
     rw [hy _ ht]
     cases b <;> cases want <;> rfl
theorem Rel.know {lo base:Nat} {m:Nat->Option Nat} {F:Nat->Prop} {Bs:Base} {s:St Bs} {a:Act} {w:World} (hr:Rel lo base m F s a w) {d:Nat} {st b:Bool} (h:s.tmp d = .bool st b):Rel lo base m F (s.know d b) a w:=by
 refine ⟨hr.hr,hr.defers,hr.size,fun i=>?_⟩
 by_cases e:i = d
 ·subst e
  have ht:=hr.tmp i
  rw [h] at ht
  simp only [St.know,St.tmp,KF]
  simp only [R] at ht ⊢
  exact ht
 ·simp only [St.know,St.tmp]
  rw [Vo _ _ _ e]
  exact hr.tmp i
theorem evOps_wp {E:Env} (hE:E.Ok) {ro:Option Nat} {call:YL} (hcall:V7 E call) {lo base:Nat} {ops:Array Oper} {Qx:Exit->Act->World->Prop} {Bs:Base} :
  ∀ (l:List Oper) (s:St Bs) (a:Act) (w:World) (m:Nat->Option Nat) (F:Nat->Prop) (Q:St Bs->Prop),(∀ o ∈ l,YW s.N o = true)->Rel lo base m F s a w ->
  (QH E call ops l s).holds E.P Q->(∀ s',Q s'->∀ m' F' a' w',Ext base m F s.n w m' F' s'.n w'->Rel lo base m' F' s' a' w'->Qx .normal a' w') ->
  wpListIn (fen ro) 0 E.P ops Qx l a w:=by
 intro l
 induction l with
 | nil=>intro s a w m F Q _ hr hq hK; exact hK s hq m F a w (Ext.refl _ _ _ _ _) hr
 | cons o rest ih=>
  intro s a w m F Q hd hr hq hK
  have hdst:∀ d,o.dst = some d->d < s.N:=VF (hd o (by simp))
  have run:∀ (s':St Bs),s'.n = s.n->s'.N = s.N->Rel lo base m F s' a w ->
    (YR E call s' o.op).holds E.P (fun r=>(QH E call ops rest (({ s' with h:=r.2.1,n:=r.2.2 }:St Bs).put o.dst r.1)).holds E.P Q)->o.wpIn (fen ro) 0 E.P a w (wpListIn (fen ro) 0 E.P ops Qx rest) Qx:=by
   intro s' hn hN hr hq'
   refine Zff hE hcall hr hq' fun v h' n' hQ m' F' w' x h1 h2 h3=>?_
   have hr':Rel lo base m' F' ({ s' with h:=h',n:=n' }:St Bs) a w':=hr.move h1 h2
   have hr'':=hr'.put (dst:=o.dst) (v:=v) (x:=x) h3 (by rw [hN]; exact hdst)
   refine ih (({ s' with h:=h',n:=n' }:St Bs).put o.dst v) (a.put o.dst x) w' m' F' Q (fun p hp=>?_) hr'' hQ fun s'' hs' m'' F'' a' w'' h4 h5=>?_
   ·have:=hd p (List.mem_cons_of_mem _ hp)
    rw [<- hN] at this
    cases hdo:o.dst <;> exact this
   ·rw [hn] at h1
    refine hK s'' hs' m'' F'' a' w'' (h1.trans ?_) h5
    cases hdo:o.dst <;> simpa only [St.put,hdo] using h4
  have skip:∀ (s':St Bs),s'.n = s.n->s'.N = s.N->Rel lo base m F s' a w->(QH E call ops rest (s'.put o.dst .undef)).holds E.P Q->wpListIn (fen ro) 0 E.P ops Qx rest (a.put o.dst undef) w:=by
   intro s' hn hN hr hq'
   have hr'':=hr.put (dst:=o.dst) (v:=.undef) (x:=Go.undef) (by simp only [R]) (by rw [hN]; exact hdst)
   refine ih (s'.put o.dst .undef) _ w m F Q (fun p hp=>?_) hr'' hq' fun s'' hs' m'' F'' a' w'' h4 h5=>?_
   ·have:=hd p (List.mem_cons_of_mem _ hp)
    rw [<- hN] at this
    cases hdo:o.dst <;> exact this
   ·refine hK s'' hs' m'' F'' a' w'' ?_ h5
    rw [<- hn]
    cases hdo:o.dst <;> simpa only [St.put,hdo] using h4
  unfold wpListIn
  unfold QH at hq
  have ht:=Zgs (ops:=ops) (val:=s.tmp) (o:=o)
  dsimp only at hq
  cases hg:guardOf ops s.tmp o with
  | bad=>rw [hg] at hq; exact hq.elim
  | yes=>
   rw [hg] at hq ht
   dsimp only at hq ht
   rw [if_pos (K5 hr ht)]
   rw [Tree.Ya] at hq
   exact (run s rfl rfl hr hq)
  | no=>
   rw [hg] at hq ht
   dsimp only at hq ht
   rw [if_neg (by rw [K5 hr ht]; simp)]
   exact ⟨fun _ _=>trivial,skip s rfl rfl hr hq⟩
  | dyn d b want=>
   rw [hg] at hq ht
   dsimp only at hq ht
   obtain ⟨ht,hval⟩:=ht
   have hy:=K5 hr ht
   cases want with
   | true=>
    dsimp only at hq
    cases b with
    | true=>
     rw [if_pos (by rw [hy]; rfl)]
     have hq':=hq.1 rfl
     rw [Tree.Ya] at hq'
     exact (run (s.know d true) rfl rfl (hr.know hval) hq')
    | false=>
     rw [if_neg (by rw [hy]; simp)]
     exact ⟨fun _ _=>trivial,skip (s.know d false) rfl rfl (hr.know hval) (hq.2 rfl)⟩
   | false=>
    dsimp only at hq
    cases b with
    | true=>
     rw [if_neg (by rw [hy]; simp)]
     exact ⟨fun _ _=>trivial,skip (s.know d true) rfl rfl (hr.know hval) (hq.1 rfl)⟩
    | false=>
     rw [if_pos (by rw [hy]; rfl)]
     have hq':=hq.2 rfl
     rw [Tree.Ya] at hq'
     exact (run (s.know d false) rfl rfl (hr.know hval) hq')
end Go.Fw
end
