/- Structs and slices made, cut and measured; the least and the greatest: the evaluator's answer stands for the model's. -/
import Derived.Test.YtnjjailadijdlaaGreatDoorMAd
import Derived.Laws.CopyRow
import Derived.Lib.ConvBytes
import Derived.Laws.AppendOwn
set_option maxRecDepth 100000
set_option linter.unusedVariables false
set_option linter.unusedSimpArgs false
noncomputable section
namespace Go.Fw
section
variable {P:Program} {F:Nat->Prop} {w:World} {n:Nat} {m:Nat->Option Nat}
theorem JN {t:TypeId} {cs:V} (h:Xc P t = some cs):∃ z,(zeroValue t).run P w = .ok z w/\RL F w cs n m z.cells.toList:=by
 unfold Xc at h
 cases hi:P.info? t with
 | none=>rw [hi] at h; cases h
 | some i=>
  rw [hi] at h
  dsimp only at h
  cases hz:i.zero with
  | none=>rw [hz] at h; cases h
  | some z=>
   rw [hz] at h
   injection h with h
   subst h
   refine ⟨z,by simp only [zeroValue,Sem.run_bind,run_typeInfo w hi,Result.andThen_ok,hz,Sem.run_pure],?_⟩
   unfold V.ofValue
   split
   ·exact ZhD _
   ·rename_i hne
    have hc:z.cells = #[z]:=by cases z <;> first | rfl | exact absurd rfl (hne _)
    rw [hc]
    have hr:=ZaS (F:=F) (w:=w) (n:=n) (m:=m) z
    cases ho:V.KA z with
    | agg cs=>exfalso; unfold V.KA at ho; split at ho <;> first | (cases ho; done) | (split at ho <;> cases ho)
    | _=>
     rw [ho] at hr
     simp only [V.cells,RL]
     exact ⟨z,[],rfl,hr,rfl⟩
inductive Parts (F:Nat->Prop) (w:World) (n:Nat) (m:Nat->Option Nat):List (Nat×V)->List (Nat×Value)->Prop
 | nil:Parts F w n m [] []
 | cons {i:Nat} {v:V} {x:Value} {l:List (Nat×V)} {r:List (Nat×Value)} (h:R F w v n m x) (hr:Parts F w n m l r):Parts F w n m ((i,v) :: l) ((i,x) :: r)
theorem foldl_set (vs:List Value):∀ (k:Nat) (cs:Array Value) (o:Nat),
  ((vs.zipIdx k).foldl (fun cs (c,j)=>cs.setIfInBounds (o + j) c) cs).toList = YU cs.toList (o + k) vs:=by
 induction vs with
 | nil=>
  intro k cs o
  simp only [List.zipIdx_nil,List.foldl_nil]
  apply List.ext_getElem?
  intro j
  by_cases hj:j < cs.toList.length
  ·rw [JG _ _ _ _ hj]
   rw [if_neg (by simp only [List.length_nil]; omega)]
  ·rw [List.getElem?_eq_none (by omega),List.getElem?_eq_none (by rw [Wu]; omega)]
 | cons v vs ih=>
  intro k cs o
  simp only [List.zipIdx_cons,List.foldl_cons]
  rw [ih (k + 1) _ o]
  apply List.ext_getElem?
  intro j
  have hlen:(cs.setIfInBounds (o + k) v).toList.length = cs.toList.length:=by simp
  by_cases hj:j < cs.toList.length
  ·rw [JG _ _ _ _ (by rw [hlen]; exact hj),JG _ _ _ _ hj]
   simp only [List.length_cons]
   by_cases h1:o + (k + 1)<=j/\j < o + (k + 1) + vs.length
   ·rw [if_pos h1,if_pos (by omega)]
    have:j - (o + k) = (j - (o + (k + 1))) + 1:=by omega
    rw [this,List.getElem?_cons_succ]
   ·rw [if_neg h1]
    by_cases h2:j = o + k
    ·subst h2
     rw [if_pos (by omega)]
     simp only [Nat.sub_self,List.getElem?_cons_zero,Array.getElem?_toList]
     rw [Array.getElem?_setIfInBounds_self_of_lt (by simpa using hj)]
    ·rw [if_neg (by omega)]
     simp only [Array.getElem?_toList]
     rw [Array.getElem?_setIfInBounds_ne (by omega)]
  ·rw [List.getElem?_eq_none (by rw [Wu,hlen]; omega),List.getElem?_eq_none (by rw [Wu]; omega)]
theorem fill_cons (place:Nat->Option (Nat×Nat)) (cells:Array Value) (i:Nat) (v:Value) (rest:List (Nat×Value)) (off z:Nat) (hp:place i = some (off,z))
  (h1:v.cells.size = z) (h2:off + z<=cells.size) :
  Instr.fill place cells ((i,v) :: rest) = Instr.fill place (YU cells.toList off v.cells.toList).toArray rest:=by
 simp only [Instr.fill,hp]
 rw [if_neg (by simp [h1]; omega)]
 congr 1
 apply Array.ext'
 have:=foldl_set v.cells.toList 0 cells off
 simp only [Nat.add_zero] at this
 rw [<- this]
 rw [<- Array.toList_zipIdx,Array.foldl_toList]
theorem ZfU {place:Nat->Option (Nat×Nat)}:∀ (l:List (Nat×V)) (r:List (Nat×Value)),Parts F w n m l r->∀ (cs:V) (out:V) (cells:Array Value),
  J4 P place cs l = some out->RL F w cs n m cells.toList ->
  ∃ outc,Instr.fill place cells r = some outc/\RL F w out n m outc.toList/\outc.size = cells.size:=by
 intro l r h
 induction h with
 | nil=>intro cs out cells hf hr; simp only [J4] at hf; injection hf with hf; subst hf; exact ⟨cells,rfl,hr,rfl⟩
 | @cons i v x l r hv hlr ih=>
  intro cs out cells hf hr
  simp only [J4] at hf
  cases hp:place i with
  | none=>rw [hp] at hf; cases hf
  | some q=>
   obtain ⟨off,z⟩:=q
   rw [hp] at hf
   dsimp only at hf
   cases hsol:v.solid
   ·rw [hsol] at hf; cases hf
   rw [hsol,Bool.true_and] at hf
   have hcells:=Ud v x hv hsol
   rw [Y5 _ _ hcells,Y5 _ _ hr] at hf
   cases h1:Nat.beq x.cells.toList.length z
   ·rw [h1] at hf; cases hf
   ·cases h2:Nat.ble (off + z) cells.toList.length
    ·rw [h1,h2] at hf; cases hf
    ·rw [h1,h2] at hf
     have h1':x.cells.size = z:=by simpa using Nat.eq_of_beq_eq_true h1
     have h2':off + z<=cells.size:=by simpa using Nat.le_of_ble_eq_true h2
     obtain ⟨outc,g1,g2,g3⟩:=ih (cs.splice off v.cells) out (YU cells.toList off x.cells.toList).toArray hf
      (by simpa using Zb0 cs _ hr off v.cells _ hcells)
     refine ⟨outc,?_,g2,?_⟩
     ·rw [fill_cons place cells i x r off z hp h1' h2']; exact g1
     ·rw [g3]; simp [Wu]
theorem Zj8 (w:World):∀ (fields:List Field),(∀ f ∈ fields,∃ z,ZB P f.type = some z) ->
  (fields.mapM (m:=Sem) fun f=>do pure (f.offset,<- sizeOf f.type)).run P w = .ok (fields.map fun f=>(f.offset,(ZB P f.type).getD 0)) w:=by
 intro fields
 induction fields with
 | nil=>intro _; simp
 | cons f fs ih=>
  intro h
  obtain ⟨z,hz⟩:=h f (by simp)
  rw [List.mapM_cons]
  simp only [Sem.run_bind,Y9 hz,Result.andThen_ok,Sem.run_pure,ih (fun g hg=>h g (List.mem_cons_of_mem _ hg)),List.map_cons,hz,Option.getD_some]
theorem ZiD {t:TypeId} {l:List (Nat×V)} {r:Array (Nat×Value)} (h:Parts F w n m l r.toList):Val P F w n m (ZfW P t l) (Instr.build t r):=by
 unfold ZfW
 cases hz:Xc P t with
 | none=>exact Val.stuck
 | some zero=>
  obtain ⟨z,hz1,hz2⟩:=JN (F:=F) (w:=w) (n:=n) (m:=m) hz
  dsimp only
  cases hu:P.underlying t with
  | none=>exact Val.stuck
  | some d=>
   cases d <;> try exact Val.stuck
   ·rename_i len e
    dsimp only
    cases hs:ZB P e with
    | none=>exact Val.stuck
    | some q=>
     dsimp only
     cases hf:J4 P (fun i=>some (i * q,q)) zero l with
     | none=>exact Val.stuck
     | some cs=>
      obtain ⟨outc,g1,g2,_⟩:=ZfU _ _ h _ _ _ hf hz2
      refine Val.leaf (x:=.agg outc) ?_ (by rw [Ja]; exact ⟨_,rfl,g2⟩)
      simp only [Instr.build,Sem.run_bind,hz1,run_underlying hu,Result.andThen_ok,Y9 hs,g1,Sem.run_pure]
   ·rename_i fields
    dsimp only
    cases ha:fields.toList.all fun f=>(ZB P f.type).isSome
    ·exact Val.stuck
    ·simp only [cond_true]
     cases hf:J4 P (Zdn P fields) zero l with
     | none=>exact Val.stuck
     | some cs=>
      have hall:∀ f ∈ fields.toList,∃ z,ZB P f.type = some z:=fun f hf=>Option.isSome_iff_exists.1 (List.all_eq_true.1 ha f hf)
      have hpl:=Zj8 (P:=P) w fields.toList hall
      have hfun:(fun i=>(fields.toList.map fun f=>(f.offset,(ZB P f.type).getD 0)).toArray[i]?) = (Zdn P fields):=by
       funext i
       simp only [List.getElem?_toArray,List.getElem?_map,Array.getElem?_toList,Zdn]
       cases fields[i]? <;> rfl
      obtain ⟨outc,g1,g2,_⟩:=ZfU _ _ h _ _ _ hf hz2
      refine Val.leaf (x:=.agg outc) ?_ (by rw [Ja]; exact ⟨_,rfl,g2⟩)
      have hma:(fields.mapM (m:=Sem) fun f=>do pure (f.offset,<- sizeOf f.type)).run P w = .ok (fields.toList.map fun f=>(f.offset,(ZB P f.type).getD 0)).toArray w:=by
       have:(fields.mapM (m:=Sem) fun f=>do pure (f.offset,<- sizeOf f.type)) = List.toArray <$> (fields.toList.mapM fun f=>do pure (f.offset,<- sizeOf f.type)):=by
        rw [Array.mapM_eq_mapM_toList]
       rw [this,Sem.run_map,hpl]; rfl
      simp only [Instr.build,Sem.run_bind,hz1,run_underlying hu,Result.andThen_ok,hma]
      rw [hfun,g1]
      simp only [Sem.run_pure]
theorem JV {v:V} {x:Value} (h:R F w v n m x):R F w v.Xo n m x:=by
 cases v <;> try exact h
 rw [QX] at h
 obtain ⟨hb,a,cap,e,h1,h2,h3⟩:=h
 show R F w (.osl _ _ _ _ _) n m x
 rw [Yb]
 exact ⟨hb,a,cap,e,by omega,h3⟩
theorem Zbo {k:IntKind} {j:Int} {y:Nat} (code:BoundsCode) (h0:0<=j) (h1:j<=y):Instr.sliceBound (.int k j) y code = pure j.toNat:=by
 simp only [Instr.sliceBound,asIntOf,pure_bind]
 rw [if_pos ⟨h0,h1⟩]
theorem Ke {st:Bool} {k cap:Nat} {lo hi:Option V} {vlo vhi:Option Value} {isSlice:Bool} {T:Bool->Nat->Nat->Tree V} {f:Nat×Nat×Nat->Sem Value}
  (hk:k<=cap) (hlo:∀ a,lo = some a->∃ x,vlo = some x/\R F w a n m x) (hlo0:lo = none->vlo = none) (hhi:∀ a,hi = some a->∃ x,vhi = some x/\R F w a n m x) (hhi0:hi = none->vhi = none)
  (h:∀ st a b,a<=b->b<=k->(lo = none->a = 0)->Val P F w n m (T st a b) (f (a,b,cap))) :
  Val P F w n m (Qf st k lo hi T) (Instr.sliceBounds isSlice k cap vlo vhi none >>= f):=by
 have hlow:∀ st b,b<=k->Val P F w n m (match lo with | none=>T st 0 b | some (.int s _ j)=>U9 (st&&s) j b fun q=>T (st&&s) q b | some _=>.stuck)
   ((match vlo with
     | some v=>(do let l <- Instr.sliceBound v b (if (none:Option Value).isSome then .slice3C else .sliceB); pure (l,b,cap))
     | none=>pure (0,b,cap)) >>= f):=by
  intro st b hb
  cases lo with
  | none=>
   rw [hlo0 rfl]
   intro Q hq
   obtain ⟨v,x,h1,h2,h3⟩:=h st 0 b (Nat.zero_le _) hb (fun _=>rfl) Q hq
   exact ⟨v,x,h1,by simp only [pure_bind]; exact h2,h3⟩
  | some a=>
   obtain ⟨x,rfl,hx⟩:=hlo a rfl
   cases a <;> try exact Val.stuck
   rename_i s kk j
   rw [Z9] at hx
   subst hx
   refine ZaM fun h0 h1=>?_
   intro Q hq
   obtain ⟨v,x,h1',h2,h3⟩:=h (st&&s) j.toNat b (by omega) hb (fun h=>by cases h) Q hq
   refine ⟨v,x,h1',?_,h3⟩
   simp only [Zbo _ h0 h1,pure_bind]
   exact h2
 unfold Qf
 cases hi with
 | none=>
  rw [hhi0 rfl]
  intro Q hq
  obtain ⟨v,x,h1,h2,h3⟩:=hlow st k (Nat.le_refl _) Q hq
  refine ⟨v,x,h1,?_,h3⟩
  simp only [Instr.sliceBounds,pure_bind]
  exact h2
 | some a=>
  obtain ⟨x,rfl,hx⟩:=hhi a rfl
  cases a <;> try exact Val.stuck
  rename_i s kk j
  rw [Z9] at hx
  subst hx
  refine ZaM fun h0 h1=>?_
  intro Q hq
  obtain ⟨v,x,h1',h2,h3⟩:=hlow (st&&s) j.toNat (by omega) Q hq
  refine ⟨v,x,h1',?_,h3⟩
  simp only [Instr.sliceBounds,pure_bind,Zbo _ h0 (show j<=(cap:Int) by omega)]
  exact h2
theorem ZgC {base:Nat} {hb0:Nat->Blk} (hr:HR base m F hb0 n w) {b B k:Nat} (hbn:b < n) (hB:m b = some B) (h:Zbb (hb0 b) k = true):∃ c el,w.heap[B]? = some (.cells c el (0,0))/\k<=c.size:=by
 have hblk:=hr.blk b hbn
 cases hh:hb0 b <;> rw [hh] at h hblk <;> try (cases h; done)
 rename_i cs
 obtain ⟨B',xs,el,ys,zs,hm,hcell,hsp,hrow⟩:=hblk
 obtain rfl:B = B':=by rw [hB] at hm; injection hm
 refine ⟨xs,el,hcell,?_⟩
 have h1:=Nat.le_of_ble_eq_true h
 rw [Y5 _ _ hrow] at h1
 exact Nat.le_trans h1 (KY hsp)
theorem ZkH {t:TypeId} {a:V} {x:Value} {lo hi:Option V} {mx:V} {vlo vhi vmx:Option Value} (ha:R F w a n m x)
  (hlo0:lo = none->vlo = none) (hhi:∀ a,hi = some a->∃ x,vhi = some x/\R F w a n m x) (hmx:∃ x,vmx = some x/\R F w mx n m x) :
  Val P F w n m (Zc0 P t a lo hi mx) (Instr.sliceAt t x vlo vhi vmx):=by
 unfold Zc0
 cases lo with
 | some _=>exact Val.stuck
 | none=>
  cases hi with
  | none=>exact Val.stuck
  | some hi=>
   dsimp only
   cases hz:ZbC hi&&ZbC mx
   ·exact Val.stuck
   simp only [cond_true]
   cases hu:P.underlying t with
   | none=>exact Val.stuck
   | some d=>
    cases d <;> try exact Val.stuck
    dsimp only
    simp only [Bool.and_eq_true] at hz
    obtain ⟨yh,hyh,rh⟩:=hhi hi rfl
    obtain ⟨ym,hym,rm⟩:=hmx
    have zero:∀ (v:V) (y:Value),ZbC v = true->R F w v n m y->∃ k,y = .int k 0:=by
     intro v y hv hy
     cases v <;> try (cases hv; done)
     rename_i st k i
     cases st <;> try (cases hv; done)
     cases i <;> try (cases hv; done)
     rename_i c
     have:=Nat.eq_of_beq_eq_true hv
     subst this
     rw [Z9] at hy
     exact ⟨k,hy⟩
    obtain ⟨kh,rfl⟩:=zero _ _ hz.1 rh
    obtain ⟨km,rfl⟩:=zero _ _ hz.2 rm
    rename_i e
    cases hsz:ZB P e with
    | none=>exact Val.stuck
    | some z=>
     dsimp only
     rw [hlo0 rfl,hyh,hym]
     have hrun:∀ (ad:Option Addr) (l c:Nat),(Instr.sliceAt t (.slice ad l c) none (some (.int kh 0)) (some (.int km 0))).run P w = .ok (.slice ad 0 0) w:=by
      intro ad l c
      simp [Instr.sliceAt,Instr.slice,Instr.sliceBounds,Instr.sliceBound,asIntOf,Sem.run_bind,run_underlying hu,Result.andThen_ok,Y9 hsz]
     have pos:∀ {st:Bool} {k:Nat},(st&&Nat.blt 0 k) = true->0 < k:=by
      intro st k h
      simp only [Bool.and_eq_true,Nat.blt_eq] at h
      exact h.2
     cases a <;> try exact Val.stuck
     case rsl=>
      rw [Xk] at ha
      obtain ⟨ad,c,rfl,_,hrow⟩:=ha
      refine Val.leaf (hrun ad _ c) ?_
      rw [Ui]
      refine ⟨ad,rfl,fun h=>?_⟩
      have:=pos h
      rcases hrow with h0 | ⟨B,off,rfl,_⟩
      ·omega
      ·simp
     case osl=>
      rw [Yb] at ha
      obtain ⟨_,ad,c,rfl,hk,hrow⟩:=ha
      refine Val.leaf (hrun ad _ c) ?_
      rw [Ui]
      refine ⟨ad,rfl,fun h=>?_⟩
      have:=pos h
      rcases hrow with h0 | ⟨B,c0,el,fr,rfl,_⟩
      ·omega
      ·simp
     case osp=>
      rw [QX] at ha
      obtain ⟨_,ad,c,rfl,hk,hk2,hrow⟩:=ha
      refine Val.leaf (hrun ad _ c) ?_
      rw [Ui]
      refine ⟨ad,rfl,fun h=>?_⟩
      have:=pos h
      rcases hrow with h0 | ⟨B,c0,el,fr,rfl,_⟩
      ·omega
      ·simp
     case Zz=>
      simp only [R] at ha
      subst ha
      exact Val.leaf (hrun none 0 0) (by simp only [R])
     case esl=>
      rw [Ui] at ha
      obtain ⟨ad,rfl,hne⟩:=ha
      exact Val.leaf (hrun ad 0 0) (by rw [Ui]; exact ⟨ad,rfl,hne⟩)
theorem Zmf {a:V} {x:Value} {st:Bool} {b es i k:Nat} (ha:R F w a n m x) (h:a.Xo = .osl st b es i k):R F w (.osl st b es i k) n m x:=by
 cases a <;> simp only [V.Xo] at h <;> try (cases h; done)
 ·injection h with h1 h2 h3 h4 h5; subst h1; subst h2; subst h3; subst h4; subst h5; exact ha
 ·injection h with h1 h2 h3 h4 h5; subst h1; subst h2; subst h3; subst h4; subst h5
  rw [QX] at ha
  obtain ⟨hb,a,cap,e,h1,h2,h3⟩:=ha
  rw [Yb]
  exact ⟨hb,a,cap,e,by omega,h3⟩
theorem Zk0 {t:TypeId} {a:V} {x:Value} {lo hi mx:V} {xl xh xm:Value} (ha:R F w a n m x) (hlo:R F w lo n m xl) (hhi:R F w hi n m xh) (hmx:R F w mx n m xm) :
  Val P F w n m (ZfK P t a lo hi mx) (Instr.sliceAt t x (some xl) (some xh) (some xm)):=by
 unfold ZfK
 cases hu:P.underlying t with
 | none=>exact Val.stuck
 | some d=>
  cases d <;> try exact Val.stuck
  rename_i e
  dsimp only
  cases hz:ZB P e with
  | none=>exact Val.stuck
  | some z=>
   dsimp only
   cases hp:a.Xo <;> try exact Val.stuck
   rename_i st bl es i k
   dsimp only
   cases he:Nat.beq z es
   ·exact Val.stuck
   ·obtain rfl:=Nat.eq_of_beq_eq_true he
    simp only [cond_true]
    have ha':=Zmf ha hp
    rw [Yb] at ha'
    obtain ⟨hbn,ad,cap,rfl,hk,hrow⟩:=ha'
    cases mx <;> try exact Val.stuck
    rename_i s kk j
    rw [Z9] at hmx
    subst hmx
    dsimp only
    refine ZaM fun h0 h1=>?_
    unfold Qf
    dsimp only
    cases hi <;> try exact Val.stuck
    rename_i s2 k2 j2
    rw [Z9] at hhi
    subst hhi
    dsimp only
    refine ZaM fun h2 h3=>?_
    cases lo <;> try exact Val.stuck
    rename_i s3 k3 j3
    rw [Z9] at hlo
    subst hlo
    dsimp only
    refine ZaM fun h4 h5=>?_
    have hjc:j<=(cap:Int):=by omega
    refine Val.leaf (x:=.slice (if j.toNat = j3.toNat then ad else ad.map (·.add (j3.toNat * z))) (j2.toNat - j3.toNat) (j.toNat - j3.toNat)) ?_ ?_
    ·simp only [Instr.sliceAt,Instr.slice,Sem.run_bind,run_underlying hu,Result.andThen_ok,Y9 hz,Instr.sliceBounds,Zbo _ h0 hjc,Zbo _ h2 h3,Zbo _ h4 h5,pure_bind,Sem.run_pure]
    ·rw [Yb]
     refine ⟨hbn,_,_,rfl,by omega,?_⟩
     by_cases hab:j.toNat - j3.toNat = 0
     ·exact .inl hab
     ·right
      rcases hrow with h0' | ⟨B,c0,el0,fr0,rfl,hB,hc0,hz0⟩
      ·omega
      ·rw [if_neg (by omega)]
       have e:i + j3.toNat + (j.toNat - j3.toNat) = i + j.toNat:=by omega
       refine ⟨B,c0,el0,fr0,by simp only [Option.map_some,add_plain,Nat.add_mul],hB,hc0,?_⟩
       rw [e]
       exact Nat.le_trans (Nat.mul_le_mul_right z (by omega)) hz0
theorem ZkY {base:Nat} {hb0:Nat->Blk} {t:TypeId} {a:V} {x:Value} {lo hi mx:Option V} {vlo vhi vmx:Option Value} (hr:HR base m F hb0 n w) (ha:R F w a n m x)
  (hlo:∀ a,lo = some a->∃ x,vlo = some x/\R F w a n m x) (hlo0:lo = none->vlo = none) (hhi:∀ a,hi = some a->∃ x,vhi = some x/\R F w a n m x) (hhi0:hi = none->vhi = none)
  (hmx:∀ a,mx = some a->∃ x,vmx = some x/\R F w a n m x) (hmx0:mx = none->vmx = none) :
  Val P F w n m (UQ P hb0 t a lo hi mx) (Instr.sliceAt t x vlo vhi vmx):=by
 unfold UQ
 cases mx with
 | some mx=>
  dsimp only
  obtain ⟨xm,rfl,hm'⟩:=hmx mx rfl
  have h0:=ZkH (P:=P) (t:=t) (mx:=mx) (vmx:=some xm) ha hlo0 hhi ⟨xm,rfl,hm'⟩
  cases hs:Zc0 P t a lo hi mx <;> rw [hs] at h0 <;> try exact h0
  cases lo with
  | none=>exact Val.stuck
  | some lo=>
   cases hi with
   | none=>exact Val.stuck
   | some hi=>
    obtain ⟨xl,rfl,hl'⟩:=hlo lo rfl
    obtain ⟨xh,rfl,hh'⟩:=hhi hi rfl
    exact Zk0 ha hl' hh' hm'
 | none=>
  rw [hmx0 rfl]
  dsimp only
  cases hu:P.underlying t with
  | none=>exact Val.stuck
  | some d=>
   cases d <;> try exact Val.stuck
   ·dsimp only
    cases a <;> try exact Val.stuck
    rename_i st l
    rw [Wx] at ha
    subst ha
    have hsz:(ByteArray.mk l.toArray).size = l.length:=by simp [ByteArray.size]
    have h:=Ke (P:=P) (F:=F) (w:=w) (n:=n) (m:=m) (st:=st) (k:=l.length) (cap:=l.length) (lo:=lo) (hi:=hi) (vlo:=vlo) (vhi:=vhi) (isSlice:=false)
     (T:=fun st a b=>.leaf (.str st ((l.drop a).take (b - a)))) (f:=fun r=>pure (.string ((ByteArray.mk l.toArray).extract r.1 r.2.1))) (Nat.le_refl _) hlo hlo0 hhi hhi0
     (fun st a b h1 h2 hz0=>Val.leaf (x:=.string ⟨((l.drop a).take (b - a)).toArray⟩) (by
      simp only [Sem.run_pure]
      congr 2
      apply ByteArray.ext
      apply Array.ext'
      simp [ByteArray.data_extract,List.extract_eq_take_drop]) (by rw [Wx]))
    intro Q hq
    obtain ⟨v,x,h1,h2,h3⟩:=h Q hq
    refine ⟨v,x,h1,?_,h3⟩
    simp only [Instr.sliceAt,Instr.slice,Sem.run_bind,run_underlying hu,Result.andThen_ok,Option.isSome_none,Bool.false_eq_true,if_false,hsz]
    simpa only [Sem.run_bind] using h2
   ·rename_i arr
    dsimp only
    cases a <;> try exact Val.stuck
    rename_i st bl es i o
    dsimp only
    cases hua:P.underlying arr with
    | none=>exact Val.stuck
    | some da=>
     cases da <;> try exact Val.stuck
     rename_i len e
     dsimp only
     cases hz:ZB P e with
     | none=>exact Val.stuck
     | some z=>
      dsimp only
      cases he:Nat.beq (i * es + o) ((i * es + o) / z * z)
      ·exact Val.stuck
      cases hcs:Zbb (hb0 bl) (i * es + o + len * z)
      ·exact Val.stuck
      ·have he:=Nat.eq_of_beq_eq_true he
       simp only [Bool.and_self,cond_true]
       rw [Xi] at ha
       obtain ⟨hbn,B,rfl,hB⟩:=ha
       obtain ⟨hc0,el0,hcell0,hsz0⟩:=ZgC hr hbn hB hcs
       generalize (i * es + o) / z = q0 at he ⊢
       rw [he]
       have h:=Ke (P:=P) (F:=F) (w:=w) (n:=n) (m:=m) (st:=st) (k:=len) (cap:=len) (lo:=lo) (hi:=hi) (vlo:=vlo) (vhi:=vhi) (isSlice:=false)
        (T:=fun st a b=>.leaf (.osl st bl z (q0 + a) (b - a)))
        (f:=fun r=>pure (.slice (some (if r.2.2 = r.1 then (⟨B,q0 * z,none⟩:Addr) else Addr.add ⟨B,q0 * z,none⟩ (r.1 * z))) (r.2.1 - r.1) (r.2.2 - r.1))) (Nat.le_refl _) hlo hlo0 hhi hhi0
        (fun st a b h1 h2 hz0=>Val.leaf (x:=.slice (some (if len = a then (⟨B,q0 * z,none⟩:Addr) else Addr.add ⟨B,q0 * z,none⟩ (a * z))) (b - a) (len - a)) (by simp only [Sem.run_pure]) (by
         rw [Yb]
         refine ⟨hbn,_,_,rfl,by omega,?_⟩
         by_cases hab:len - a = 0
         ·exact .inl hab
         ·right
          rw [if_neg (by omega)]
          refine ⟨B,hc0,el0,(0,0),by rw [add_plain,Nat.add_mul],hB,hcell0,?_⟩
          have e:q0 + a + (len - a) = q0 + len:=by omega
          rw [e,Nat.add_mul,<- he]
          exact hsz0))
       intro Q hq
       obtain ⟨v,x,h1,h2,h3⟩:=h Q hq
       refine ⟨v,x,h1,?_,h3⟩
       simp only [Instr.sliceAt,Instr.slice,Sem.run_bind,run_underlying hu,run_underlying hua,Result.andThen_ok,asAddr,pure_bind,Sem.run_pure]
       simp only [Sem.run_bind] at h2
       simp only [Y9 hz,Result.andThen_ok]
       exact h2
   ·rename_i e
    dsimp only
    cases a <;> try exact Val.stuck
    ·rename_i st es k get
     dsimp only
     cases hz:ZB P e with
     | none=>exact Val.stuck
     | some z=>
      dsimp only
      cases he:Nat.beq z es
      ·exact Val.stuck
      ·obtain rfl:=Nat.eq_of_beq_eq_true he
       simp only [cond_true]
       rw [Xk] at ha
       obtain ⟨ad,cap,rfl,hk,hrow⟩:=ha
       have h:=Ke (P:=P) (F:=F) (w:=w) (n:=n) (m:=m) (st:=st) (k:=k) (cap:=cap) (lo:=lo) (hi:=hi) (vlo:=vlo) (vhi:=vhi) (isSlice:=true)
        (T:=fun st a b=>.leaf (.rsl st z (b - a) fun j=>get (a + j)))
        (f:=fun r=>pure (.slice (if r.2.2 = r.1 then ad else ad.map (·.add (r.1 * z))) (r.2.1 - r.1) (r.2.2 - r.1))) hk hlo hlo0 hhi hhi0
        (fun st a b h1 h2 hz0=>Val.leaf (x:=.slice (if cap = a then ad else ad.map (·.add (a * z))) (b - a) (cap - a)) (by simp only [Sem.run_pure]) (by
         rw [Xk]
         refine ⟨_,_,rfl,by omega,?_⟩
         by_cases hab:b - a = 0
         ·exact .inl hab
         ·right
          rcases hrow with h0 | ⟨B,off,rfl,hF,c,el,fr,hc,hr⟩
          ·omega
          ·rw [if_neg (by omega)]
           refine ⟨B,off + a * z,by simp only [Option.map_some,add_plain],hF,c,el,fr,hc,fun j hj=>?_⟩
           obtain ⟨xs,g1,g2,g3⟩:=hr (a + j) (by omega)
           refine ⟨xs,g1,g2,fun q hq=>?_⟩
           rw [<- g3 q hq]
           congr 1
           rw [Nat.add_mul]
           omega))
       intro Q hq
       obtain ⟨v,x,h1,h2,h3⟩:=h Q hq
       refine ⟨v,x,h1,?_,h3⟩
       simp only [Instr.sliceAt,Instr.slice,Sem.run_bind,run_underlying hu,Result.andThen_ok]
       simp only [Sem.run_bind] at h2
       simp only [Y9 hz,Result.andThen_ok]
       exact h2
    ·rename_i st bl es i k
     dsimp only
     cases hz:ZB P e with
     | none=>exact Val.stuck
     | some z=>
      dsimp only
      cases he:Nat.beq z es
      ·exact Val.stuck
      ·obtain rfl:=Nat.eq_of_beq_eq_true he
       simp only [cond_true]
       rw [Yb] at ha
       obtain ⟨hbn,ad,cap,rfl,hk,hrow⟩:=ha
       have h:=Ke (P:=P) (F:=F) (w:=w) (n:=n) (m:=m) (st:=st) (k:=k) (cap:=cap) (lo:=lo) (hi:=hi) (vlo:=vlo) (vhi:=vhi) (isSlice:=true)
        (T:=fun st a b=>.leaf (ospB lo st bl z i k a b))
        (f:=fun r=>pure (.slice (if r.2.2 = r.1 then ad else ad.map (·.add (r.1 * z))) (r.2.1 - r.1) (r.2.2 - r.1))) hk hlo hlo0 hhi hhi0
        (fun st a b h1 h2 hzz=>Val.leaf (x:=.slice (if cap = a then ad else ad.map (·.add (a * z))) (b - a) (cap - a)) (by simp only [Sem.run_pure]) (by
         have ho:R F w (.osl st bl z (i + a) (b - a)) n m (.slice (if cap = a then ad else ad.map (·.add (a * z))) (b - a) (cap - a)):=by
          rw [Yb]
          refine ⟨hbn,_,_,rfl,by omega,?_⟩
          by_cases hab:cap - a = 0
          ·exact .inl hab
          ·right
           rcases hrow with h0 | ⟨B,c0,el0,fr0,rfl,hB,hc0,hz0⟩
           ·omega
           ·rw [if_neg (by omega)]
            have e:i + a + (cap - a) = i + cap:=by omega
            exact ⟨B,c0,el0,fr0,by simp only [Option.map_some,add_plain,Nat.add_mul],hB,hc0,by rw [e]; exact hz0⟩
         unfold ospB
         cases lo with
         | some _=>exact ho
         | none=>
          have:=hzz rfl
          subst this
          dsimp only
          unfold ospOf
          cases hcc:(st&&Nat.beq b k)
          ·rw [Yb] at ho
           obtain ⟨g1,g2,g3,g4,g5,g6⟩:=ho
           simp only [cond_false]
           rw [QX]
           injection g4 with g41 g42 g43
           refine ⟨hbn,g2,g3,by rw [g41,g42,g43]; rfl,h2,by rw [<- g43]; omega,?_⟩
           simpa using g6
          ·simpa using ho))
       intro Q hq
       obtain ⟨v,x,h1,h2,h3⟩:=h Q hq
       refine ⟨v,x,h1,?_,h3⟩
       simp only [Instr.sliceAt,Instr.slice,Sem.run_bind,run_underlying hu,Result.andThen_ok]
       simp only [Sem.run_bind] at h2
       simp only [Y9 hz,Result.andThen_ok]
       exact h2
    ·rename_i st bl es i k c0
     dsimp only
     cases hz:ZB P e with
     | none=>exact Val.stuck
     | some z=>
      dsimp only
      cases he:Nat.beq z es
      ·exact Val.stuck
      ·obtain rfl:=Nat.eq_of_beq_eq_true he
       simp only [cond_true]
       rw [QX] at ha
       obtain ⟨hbn,ad,cap,rfl,hk,hk2,hrow⟩:=ha
       have main:∀ kk,kk<=cap->(Instr.sliceBounds true k cap vlo vhi none = Instr.sliceBounds true kk cap vlo vhi none)->Val P F w n m (Qf st kk lo hi fun st a b=>.leaf (.osl st bl z (i + a) (b - a))) (Instr.sliceAt t (.slice ad k cap) vlo vhi none):=by
        intro kk hkk hsame
        have h:=Ke (P:=P) (F:=F) (w:=w) (n:=n) (m:=m) (st:=st) (k:=kk) (cap:=cap) (lo:=lo) (hi:=hi) (vlo:=vlo) (vhi:=vhi) (isSlice:=true)
         (T:=fun st a b=>.leaf (.osl st bl z (i + a) (b - a)))
         (f:=fun r=>pure (.slice (if r.2.2 = r.1 then ad else ad.map (·.add (r.1 * z))) (r.2.1 - r.1) (r.2.2 - r.1))) hkk hlo hlo0 hhi hhi0
         (fun st a b h1 h2 _=>Val.leaf (x:=.slice (if cap = a then ad else ad.map (·.add (a * z))) (b - a) (cap - a)) (by simp only [Sem.run_pure]) (by
          rw [Yb]
          refine ⟨hbn,_,_,rfl,by omega,?_⟩
          by_cases hab:cap - a = 0
          ·exact .inl hab
          ·right
           rcases hrow with h0 | ⟨B,c0,el0,fr0,rfl,hB,hc0,hz0⟩
           ·omega
           ·rw [if_neg (by omega)]
            have e:i + a + (cap - a) = i + cap:=by omega
            exact ⟨B,c0,el0,fr0,by simp only [Option.map_some,add_plain,Nat.add_mul],hB,hc0,by rw [e]; exact hz0⟩))
        intro Q hq
        obtain ⟨v,x,h1,h2,h3⟩:=h Q hq
        refine ⟨v,x,h1,?_,h3⟩
        simp only [Instr.sliceAt,Instr.slice,Sem.run_bind,run_underlying hu,Result.andThen_ok]
        rw [hsame]
        simp only [Sem.run_bind] at h2
        simp only [Y9 hz,Result.andThen_ok]
        exact h2
       cases hi with
       | none=>exact main k (by omega) rfl
       | some hi=>
        obtain ⟨xh,rfl,_⟩:=hhi hi rfl
        exact main c0 hk2 rfl
    ·dsimp only
     cases hz:ZB P e with
     | none=>exact Val.stuck
     | some z=>
      dsimp only
      simp only [R] at ha
      subst ha
      have h:=Ke (P:=P) (F:=F) (w:=w) (n:=n) (m:=m) (st:=true) (k:=0) (cap:=0) (lo:=lo) (hi:=hi) (vlo:=vlo) (vhi:=vhi) (isSlice:=true)
       (T:=fun _ _ _=>.leaf .Zz)
       (f:=fun r=>pure (.slice (if r.2.2 = r.1 then none else (none:Option Addr).map (·.add (r.1 * z))) (r.2.1 - r.1) (r.2.2 - r.1))) (Nat.le_refl _) hlo hlo0 hhi hhi0
       (fun st a b h1 h2 _=>Val.leaf (x:=.slice none 0 0) (by
        obtain rfl:a = 0:=by omega
        obtain rfl:b = 0:=by omega
        simp only [Sem.run_pure]; rfl) (by simp only [R]))
      intro Q hq
      obtain ⟨v,x,h1,h2,h3⟩:=h Q hq
      refine ⟨v,x,h1,?_,h3⟩
      simp only [Instr.sliceAt,Instr.slice,Sem.run_bind,run_underlying hu,Result.andThen_ok]
      simp only [Sem.run_bind] at h2
      simp only [Y9 hz,Result.andThen_ok]
      exact h2
    ·rename_i nn es
     dsimp only
     cases hz:ZB P e with
     | none=>exact Val.stuck
     | some z=>
      dsimp only
      simp only [R] at ha
      obtain ⟨ad,rfl,hnn⟩:=ha
      have h:=Ke (P:=P) (F:=F) (w:=w) (n:=n) (m:=m) (st:=true) (k:=0) (cap:=0) (lo:=lo) (hi:=hi) (vlo:=vlo) (vhi:=vhi) (isSlice:=true)
       (T:=fun _ _ _=>.leaf (.esl nn es))
       (f:=fun r=>pure (.slice (if r.2.2 = r.1 then ad else ad.map (·.add (r.1 * z))) (r.2.1 - r.1) (r.2.2 - r.1))) (Nat.le_refl _) hlo hlo0 hhi hhi0
       (fun st a b h1 h2 _=>Val.leaf (x:=.slice ad 0 0) (by
        obtain rfl:a = 0:=by omega
        obtain rfl:b = 0:=by omega
        simp only [Sem.run_pure]; rfl) (by simp only [R]; exact ⟨ad,rfl,hnn⟩))
      intro Q hq
      obtain ⟨v,x,h1,h2,h3⟩:=h Q hq
      refine ⟨v,x,h1,?_,h3⟩
      simp only [Instr.sliceAt,Instr.slice,Sem.run_bind,run_underlying hu,Result.andThen_ok]
      simp only [Sem.run_bind] at h2
      simp only [Y9 hz,Result.andThen_ok]
      exact h2
   ·rename_i len e
    dsimp only
    cases a <;> try exact Val.stuck
    ·rename_i st bl es i o
     dsimp only
     cases hz:ZB P e with
     | none=>exact Val.stuck
     | some z=>
      dsimp only
      cases he:Nat.beq (i * es + o) ((i * es + o) / z * z)
      ·exact Val.stuck
      cases hcs:Zbb (hb0 bl) (i * es + o + len * z)
      ·exact Val.stuck
      ·have he:=Nat.eq_of_beq_eq_true he
       simp only [Bool.and_self,cond_true]
       rw [Xi] at ha
       obtain ⟨hbn,B,rfl,hB⟩:=ha
       obtain ⟨hc0,el0,hcell0,hsz0⟩:=ZgC hr hbn hB hcs
       generalize (i * es + o) / z = q0 at he ⊢
       rw [he]
       have h:=Ke (P:=P) (F:=F) (w:=w) (n:=n) (m:=m) (st:=st) (k:=len) (cap:=len) (lo:=lo) (hi:=hi) (vlo:=vlo) (vhi:=vhi) (isSlice:=false)
        (T:=fun st a b=>.leaf (.osl st bl z (q0 + a) (b - a)))
        (f:=fun r=>pure (.slice (some (if r.2.2 = r.1 then (⟨B,q0 * z,none⟩:Addr) else Addr.add ⟨B,q0 * z,none⟩ (r.1 * z))) (r.2.1 - r.1) (r.2.2 - r.1))) (Nat.le_refl _) hlo hlo0 hhi hhi0
        (fun st a b h1 h2 hz0=>Val.leaf (x:=.slice (some (if len = a then (⟨B,q0 * z,none⟩:Addr) else Addr.add ⟨B,q0 * z,none⟩ (a * z))) (b - a) (len - a)) (by simp only [Sem.run_pure]) (by
         rw [Yb]
         refine ⟨hbn,_,_,rfl,by omega,?_⟩
         by_cases hab:len - a = 0
         ·exact .inl hab
         ·right
          rw [if_neg (by omega)]
          refine ⟨B,hc0,el0,(0,0),by rw [add_plain,Nat.add_mul],hB,hcell0,?_⟩
          have e:q0 + a + (len - a) = q0 + len:=by omega
          rw [e,Nat.add_mul,<- he]
          exact hsz0))
       intro Q hq
       obtain ⟨v,x,h1,h2,h3⟩:=h Q hq
       refine ⟨v,x,h1,?_,h3⟩
       simp only [Instr.sliceAt,Instr.sureAddr,Sem.run_bind,run_underlying hu,Result.andThen_ok,pure_bind,Sem.run_pure]
       simp only [Sem.run_bind] at h2
       simp only [Y9 hz,Result.andThen_ok]
       exact h2
    ·rename_i st es n' get i o
     dsimp only
     cases hz:ZB P e with
     | none=>exact Val.stuck
     | some z=>
      dsimp only
      cases hle:Nat.ble (o + len * z) (get i).len
      ·exact Val.stuck
      ·simp only [cond_true]
       obtain ⟨B,off,rfl,hF,c0,el0,fr0,hcell,hrow⟩:=Zgz ha (Nat.le_of_ble_eq_true hle)
       have h:=Ke (P:=P) (F:=F) (w:=w) (n:=n) (m:=m) (st:=st) (k:=len) (cap:=len) (lo:=lo) (hi:=hi) (vlo:=vlo) (vhi:=vhi) (isSlice:=false)
        (T:=fun st a b=>.leaf (.rsl st z (b - a) fun q=>elemAt (get i) o z (a + q)))
        (f:=fun r=>pure (.slice (some (if r.2.2 = r.1 then (⟨B,off,none⟩:Addr) else Addr.add ⟨B,off,none⟩ (r.1 * z))) (r.2.1 - r.1) (r.2.2 - r.1))) (Nat.le_refl _) hlo hlo0 hhi hhi0
        (fun st a b h1 h2 hz0=>Val.leaf (x:=.slice (some (if len = a then (⟨B,off,none⟩:Addr) else Addr.add ⟨B,off,none⟩ (a * z))) (b - a) (len - a)) (by simp only [Sem.run_pure]) (by
         rw [Xk]
         refine ⟨_,_,rfl,by omega,?_⟩
         by_cases hab:b - a = 0
         ·exact .inl hab
         ·right
          rw [if_neg (by omega)]
          refine ⟨B,off + a * z,by rw [add_plain],hF,c0,el0,fr0,hcell,fun q hq=>?_⟩
          obtain ⟨xs,g1,g2,g3⟩:=hrow (a + q) (by omega)
          refine ⟨xs,g1,g2,fun p hp=>?_⟩
          rw [<- g3 p hp,Nat.add_mul]
          congr 1
          omega))
       intro Q hq
       obtain ⟨v,x,h1,h2,h3⟩:=h Q hq
       refine ⟨v,x,h1,?_,h3⟩
       simp only [Instr.sliceAt,Instr.sureAddr,Sem.run_bind,run_underlying hu,Result.andThen_ok,pure_bind,Sem.run_pure]
       simp only [Sem.run_bind] at h2
       simp only [Y9 hz,Result.andThen_ok]
       exact h2
theorem evCap_val {t:TypeId} {a:V} {x:Value} {ts:Array TypeId} {ty:TypeId} {args:Array Value} (ht:ts[0]? = some t) (hargs:args[0]? = some x) (h:R F w a n m x) :
  Val P F w n m (evCap P t a) (Builtin.cap_ ts ty args):=by
 unfold evCap
 cases hu:P.underlying t with
 | none=>exact Val.stuck
 | some d=>
  cases d <;> try exact Val.stuck
  dsimp only
  have h:=JV h
  generalize a.Xo = a at h ⊢
  cases a <;> try exact Val.stuck
  ·simp only [R] at h
   subst h
   refine Val.leaf (x:=.int .i64 0) ?_ (by rw [Z9])
   simp only [Builtin.cap_,ht,hargs,Sem.run_bind,run_underlying hu,Result.andThen_ok,Sem.run_pure,goInt]
   rfl
  ·simp only [R] at h
   obtain ⟨ad,rfl,_⟩:=h
   refine Val.leaf (x:=.int .i64 0) ?_ (by rw [Z9])
   simp only [Builtin.cap_,ht,hargs,Sem.run_bind,run_underlying hu,Result.andThen_ok,Sem.run_pure,goInt]
   rfl
theorem evLen_val {t:TypeId} {a:V} {x:Value} {ts:Array TypeId} {ty:TypeId} {args:Array Value} (ht:ts[0]? = some t) (hargs:args[0]? = some x) (h:R F w a n m x) :
  Val P F w n m (evLen P t a) (Builtin.len_ ts ty args):=by
 unfold evLen
 cases hu:P.underlying t with
 | none=>exact Val.stuck
 | some d=>
  cases d <;> try exact Val.stuck
  ·dsimp only
   cases a <;> try exact Val.stuck
   rename_i st l
   rw [Wx] at h; subst h
   refine Val.leaf (x:=.int .i64 l.length) ?_ (by rw [Xw,Z9])
   simp only [Builtin.len_,ht,hargs,Sem.run_bind,run_underlying hu,Result.andThen_ok,Sem.run_pure,goInt]
   simp [ByteArray.size]
  ·dsimp only
   have h:=JV h
   generalize a.Xo = a at h ⊢
   cases a <;> try exact Val.stuck
   ·rename_i st es k get
    rw [Xk] at h
    obtain ⟨_,_,rfl,_⟩:=h
    refine Val.leaf (x:=.int .i64 k) ?_ (by rw [Xw,Z9])
    simp only [Builtin.len_,ht,hargs,Sem.run_bind,run_underlying hu,Result.andThen_ok,Sem.run_pure,goInt]
   ·rename_i st b es i k
    rw [Yb] at h
    obtain ⟨_,_,_,rfl,_⟩:=h
    refine Val.leaf (x:=.int .i64 k) ?_ (by rw [Xw,Z9])
    simp only [Builtin.len_,ht,hargs,Sem.run_bind,run_underlying hu,Result.andThen_ok,Sem.run_pure,goInt]
   ·simp only [R] at h
    subst h
    refine Val.leaf (x:=.int .i64 0) ?_ (by rw [Z9])
    simp only [Builtin.len_,ht,hargs,Sem.run_bind,run_underlying hu,Result.andThen_ok,Sem.run_pure,goInt]
    rfl
   ·simp only [R] at h
    obtain ⟨ad,rfl,_⟩:=h
    refine Val.leaf (x:=.int .i64 0) ?_ (by rw [Z9])
    simp only [Builtin.len_,ht,hargs,Sem.run_bind,run_underlying hu,Result.andThen_ok,Sem.run_pure,goInt]
    rfl
  ·rename_i k e
   dsimp only
   refine Val.leaf (x:=.int .i64 k) ?_ (by rw [Xw,Z9])
   simp only [Builtin.len_,ht,hargs,Sem.run_bind,run_underlying hu,Result.andThen_ok,Sem.run_pure,goInt]
theorem ev2_val {less:Bool} {a b:V} {x y:Value} (hx:R F w a n m x) (hy:R F w b n m y) :
  Val P F w n m (ev2 less a b) (match less with | true=>Builtin.min2 x y | false=>Builtin.max2 x y):=by
 cases a <;> try exact fun _ hq=>hq.elim
 cases b <;> try exact fun _ hq=>hq.elim
 rw [Z9] at hx hy
 subst hx; subst hy
 cases less
 ·exact Val.leaf rfl (by rw [Xw,Z9])
 ·exact Val.leaf rfl (by rw [Xw,Z9])
theorem ZgT {less:Bool}:∀ (r:V) (ys:List Value),RL F w r n m ys->∀ (a:V) (x:Value),R F w a n m x ->
  Val P F w n m (Zbq less a r) (ys.foldlM (match less with | true=>Builtin.min2 | false=>Builtin.max2) x):=by
 intro r
 induction r with
 | nil=>intro ys h a x hx; simp only [RL] at h; subst h; exact Val.leaf (by simp only [List.foldlM_nil,Sem.run_pure]) hx
 | cons b t _ ih=>
  intro ys h a x hx
  simp only [RL] at h
  obtain ⟨y,r,rfl,h1,h2⟩:=h
  intro Q hq
  simp only [Zbq] at hq
  rw [Tree.Ya] at hq
  obtain ⟨v,z,g1,g2,g3⟩:=ev2_val (P:=P) (less:=less) hx h1 _ hq
  obtain ⟨u,q,k1,k2,k3⟩:=ih r h2 v z g3 Q g1
  refine ⟨u,q,k1,?_,k3⟩
  rw [List.foldlM_cons]
  cases less <;> simp only [Sem.run_bind,g2,Result.andThen_ok,k2]
 | _=>intro ys h; simp only [RL] at h
end
end Go.Fw
namespace Go.Fw
structure Later (F:Nat->Prop) (w:World) (F':Nat->Prop) (w':World):Prop where
 f:∀ B,F B->F' B
 back:∀ B,F' B->F B\/w.heap.size<=B
 keep:∀ B,B < w.heap.size->w'.heap[B]? = w.heap[B]?
 size:w.heap.size<=w'.heap.size
 dom:(∀ B,F B->B < w.heap.size)->∀ B,F' B->B < w'.heap.size
 calm:Calm w w'
theorem Later.refl (F:Nat->Prop) (w:World):Later F w F w:=
 ⟨fun _ h=>h,fun _ h=>.inl h,fun _ _=>rfl,Nat.le_refl _,fun h=>h,Calm.refl w⟩
theorem Later.trans {F F1 F2:Nat->Prop} {w w1 w2:World} (h:Later F w F1 w1) (h':Later F1 w1 F2 w2):Later F w F2 w2 where
 f B hB:=h'.f B (h.f B hB)
 back B hB:=(h'.back B hB).elim (fun hB=>h.back B hB) (fun hB=>.inr (Nat.le_trans h.size hB))
 keep B hB:=by rw [h'.keep B (Nat.lt_of_lt_of_le hB h.size),h.keep B hB]
 size:=Nat.le_trans h.size h'.size
 dom hd:=h'.dom (h.dom hd)
 calm:=h.calm.trans h'.calm
theorem heap_alloc_old (w:World) (o:Obj) (B:Nat) (h:B < w.heap.size):(w.alloc o).heap[B]? = w.heap[B]?:=by
 simp only [World.alloc,Array.getElem?_push]
 rw [if_neg (by omega)]
theorem heap_alloc_new (w:World) (o:Obj):(w.alloc o).heap[w.heap.size]? = some o:=by
 simp only [World.alloc,Array.getElem?_push_size]
theorem Later.alloc (F:Nat->Prop) (w:World) (o:Obj):Later F w (fun B=>F B\/B = w.heap.size) (w.alloc o) where
 f _ h:=.inl h
 back B h:=h.imp id (fun h=>by omega)
 keep B hB:=heap_alloc_old w o B hB
 size:=by simp
 dom hd B hB:=by
  simp only [World.size_alloc]
  rcases hB with h | h
  ·have:=hd B h; omega
  ·omega
 calm:=⟨rfl,rfl,rfl⟩
theorem ZaG {w:World} {B:Nat} {o:Obj} (h:w.heap[B]? = some o):B < w.heap.size:=by
 rcases Nat.lt_or_ge B w.heap.size with h' | h'
 ·exact h'
 ·rw [Array.getElem?_eq_none h'] at h; cases h
section
variable {base:Nat} {m:Nat->Option Nat} {F F':Nat->Prop} {h:Nat->Blk} {n:Nat} {w w':World}
theorem HR.lt (hr:HR base m F h n w) {b:Nat} (hb:m b ≠ none):b < n:=by
 rcases Nat.lt_or_ge b n with h' | h'
 ·exact h'
 ·exact absurd (hr.new b h') hb
theorem HR.ext (hr:HR base m F h n w) (hl:Later F w F' w'):Ext base m F n w m F' n w' where
 f:=hl.f
 back B hB:=hl.back B hB
 keep B hB:=hl.keep B (hB.elim (fun h=>Nat.lt_of_lt_of_le h hr.low) (hr.fdom B))
 size:=hl.size
 sz:=Z4.Jo hl.keep
 ow:=Own.Jo hl.keep
 le:=Nat.le_refl _
 map _ _ _ h:=h
 calm:=hl.calm
theorem HR.ZdZ (hr:HR base m F h n w) {b B:Nat} (hb:m b = some B):B < w.heap.size:=by
 exact hr.dom b B hb
theorem JD {m':Nat->Option Nat} {n':Nat} {blk:Blk} {B:Option Nat} (he:Ext base m F n w m' F' n' w') (hk:∀ b,B = some b->w'.heap[b]? = w.heap[b]?) (hb:RB F w n m blk B):RB F' w' n' m' blk B:=by
 cases blk with
 | none=>exact hb
 | any=>exact hb
 | var cs=>
  obtain ⟨b,xs,el,ys,zs,e,hc,hsp,hr⟩:=hb
  exact ⟨b,xs,el,ys,zs,e,by rw [hk b e]; exact hc,hsp,he.row hr⟩
 | arr es k get=>
  rcases hb with h0 | ⟨b,c,el,e,hc,hs,hr⟩
  ·exact .inl h0
  refine .inr ⟨b,c,el,e,by rw [hk b e]; exact hc,hs,fun j hj=>?_⟩
  obtain ⟨xs,h1,h2,h3⟩:=hr j hj
  exact ⟨xs,(YK he.sz he.f (fun B hB=>he.keep B (.inr hB)) (get j) 0 0 _ _ (Nat.le_refl _) (fun _ _ _ h=>h)).2 _ h1,h2,h3⟩
 | iter mb since seen last=>
  obtain ⟨r,x,e,hc,h1⟩:=hb
  refine ⟨r,x,e,by rw [hk r e]; exact hc,?_⟩
  cases mb with
  | none=>exact h1
  | some b=>obtain ⟨y,h2,h3,h4⟩:=h1; exact ⟨y,Nat.lt_of_lt_of_le h2 he.le,h3,he.map b h2 y h4⟩
 | Ze kd st f ks=>
  obtain ⟨b,es,clock,e,hc,hE,hf⟩:=hb
  exact ⟨b,es,clock,e,by rw [hk b e]; exact hc,hE,fun k hk'=>⟨(hf k hk').1,fun v hv=>he.val ((hf k hk').2 v hv)⟩⟩
 | rng f ps asg bd row N st pend=>
  obtain ⟨l,r,e,hc,h1,h2,h3,h4,h5,h6,h7⟩:=hb
  exact ⟨l,r,e,by rw [hk l e]; exact hc,h1,h2,h3,h4,h5,h6,fun i=>he.val (h7 i)⟩
theorem HR.later (hr:HR base m F h n w) (hl:Later F w F' w'):HR base m F' h n w' where
 low:=Nat.le_trans hr.low hl.size
 fdom:=hl.dom hr.fdom
 blk b hb:=JD (hr.ext hl) (fun B hB=>hl.keep B (hr.ZdZ hB)) (hr.blk b hb)
 dom b B hB:=Nat.lt_of_lt_of_le (hr.dom b B hB) hl.size
 new:=hr.new
 gl:=hr.gl.mono (Z4.Jo hl.keep) hl.f fun B hB=>hl.keep B (hr.fdom B hB)
 own b B hB:=⟨(hr.own b B hB).1,fun hF=>(hl.back B hF).elim (hr.own b B hB).2 (fun h=>absurd (hr.ZdZ hB) (Nat.not_lt.2 h))⟩
 inj:=hr.inj
end
def Has (P : Program) (g : FuncId) : Prop := ∃ fn c, P.funcs[g]? = some fn /\ fn.body = some c /\ (fn.name == "runtime.NumGoroutine") = false
def Zi (P:Program) (g:FuncId) (args v:V):Prop:=
 Has P g/\∀ (F:Nat->Prop) (w:World) (xs:Array Value),(∀ B,F B->B < w.heap.size)->GOk F w->RL F w args 0 (fun _=>none) xs.toList ->
  Calls P g xs w fun e w'=>∃ x F',e = .returned x/\Later F w F' w'/\R F' w' v 0 (fun _=>none) x
def ZdS (P:Program) (body:Code) (g:(B:Base)->St B->Tree (Ex×St B)):Prop:=
 ∀ (B:Base) (s:St B) (Q:Ex×St B->Prop),(g B s).holds P Q->VH P body s Q
theorem Zia:∀ (c b:Code),b ∈ Yr c->b ∈ Xd c:=by
 intro c
 induction c with
 | seq x y ihx ihy=>
  intro b hb
  simp only [Yr,Xd,List.mem_append] at hb ⊢
  exact hb.imp (ihx b) (ihy b)
 | cond c x y ihx ihy=>
  intro b hb
  simp only [Yr,Xd,List.mem_append] at hb ⊢
  exact hb.imp (ihx b) (ihy b)
 | block id x ih=>exact ih
 | scope x ih=>exact ih
 | loop x ih=>
  intro b hb
  simp only [Yr,Xd,List.mem_cons] at hb ⊢
  exact hb.imp id (ih b)
 | _=>intro b hb; simp only [Yr] at hb; cases hb
def Xj (P:Program) (g:FuncId) (K:HK):Prop:=
 ∀ (args:V) (bl:List Blk) (T:Tree (V×List Blk)),K args bl = some T->∀ (base:Nat) (m:Nat->Option Nat) (F:Nat->Prop) (w:World) (xs:Array Value) (Q:V×List Blk->Prop) (KK:Ending->World->Prop),
  HR base m F (fun b=>bl.getD b .none) bl.length w->RL F w args bl.length m xs.toList->T.holds P Q ->
  (∀ v bl',Q (v,bl')->∀ m' F' w' x,Ext base m F bl.length w m' F' bl'.length w'->HR base m' F' (fun b=>bl'.getD b .none) bl'.length w'->R F' w' v bl'.length m' x->KK (.returned x) w') ->
  Has P g/\Calls P g xs w KK
structure Env.Ok (E:Env):Prop where
 mixed:E.P.follows .mixedOrders = true
 named : ∀ (g : FuncId) fn, E.P.funcs[g]? = some fn -> (fn.name == "runtime.NumGoroutine") = false
 sure:∀ g args v,E.Γ g args = some (.sure v)->Zi E.P g args v
 where_:∀ g args p v,E.Γ g args = some (.where_ p v)->p->Zi E.P g args v
 fork:∀ g args b v v',E.Γ g args = some (.fork b v v')->(b = true->Zi E.P g args v)/\(b = false->Zi E.P g args v')
 lp:∀ f body g,XI E.P f body->Wv E f body = some g->ZdS E.P body g
 hk:∀ g K,E.hk g = some K->Xj E.P g K
theorem ZdR {P:Program} {g:FuncId} (h:Has P g) (args:Array Value) (w:World):(callFunc g args).run P w = .ok (.enter g args) w:=by
 obtain ⟨fn,c,hf,hb,hn⟩:=h
 simp only [callFunc,Sem.run_bind,run_program,Result.andThen_ok,hf,hn,Bool.false_eq_true,if_false,hb,Option.isNone_some,Sem.run_pure]
section
variable {base:Nat} {m:Nat->Option Nat} {F:Nat->Prop} {h:Nat->Blk} {n:Nat} {w:World} {ρ:Operand->V} {a:Act}
theorem Vw (hρ:∀ x,R F w (ρ x) n m (a.eval x)):∀ (l:List Operand),RL F w (.ofList (l.map ρ)) n m (l.map a.eval):=by
 intro l
 induction l with
 | nil=>simp only [List.map_nil,V.ofList,RL]
 | cons x l ih=>simp only [List.map_cons,V.ofList,RL]; exact ⟨_,_,rfl,hρ x,ih⟩
theorem ZgG (hρ:∀ x,R F w (ρ x) n m (a.eval x)):∀ (l:List (Nat×Operand)),Parts F w n m (l.map fun p=>(p.1,ρ p.2)) (l.map fun p=>(p.1,a.eval p.2)):=by
 intro l
 induction l with
 | nil=>exact .nil
 | cons x l ih=>exact .cons (hρ x.2) ih
theorem Zfo {P:Program} {f:V} {x:Value} {args:V} {xs:Array Value} {g:FuncId} {out:V} (hc:callee f args = some (g,out)) (hf:R F w f n m x)
  (ha:RL F w args n m xs.toList):∃ ys:Array Value,RL F w out n m ys.toList /\
   ∀ w,((Deferred.ofValue x xs).run P w) = .ok { target:=.fn (.func g) (match x with | .func _ _ c=>c | _=>#[]),args:=(match x with | .func _ f _=>f | _=>#[]) ++ xs } w /\
    ys = (match x with | .func _ f _=>f | _=>#[]) ++ xs ++ (match x with | .func _ _ c=>c | _=>#[]):=by
 unfold callee at hc
 cases f <;> try (cases hc; done)
 rename_i f first cap
 cases f <;> try (cases hc; done)
 simp only [Option.some.injEq,Prod.mk.injEq] at hc
 obtain ⟨rfl,rfl⟩:=hc
 simp only [R] at hf
 obtain ⟨fs,cs,rfl,h1,h2⟩:=hf
 refine ⟨fs ++ xs ++ cs,?_,fun w=>⟨rfl,rfl⟩⟩
 simp only [Array.toList_append,List.append_assoc]
 exact VQ _ _ h1 _ _ (VQ _ _ ha _ _ h2)
theorem Zg8 {P:Program} {o:Oper} {c:Call} {f:Operand} {g:FuncId} {out:V} (ho:o.op = .call c) (hcal:c.callee = .value f)
  (hρ:∀ x,R F w (ρ x) n m (a.eval x)) (hc:callee (ρ f) (.ofList (c.args.toList.map ρ)) = some (g,out)) (hg:Has P g) :
  ∃ ys:Array Value,RL F w out n m ys.toList/\(execOp a.eval o).run P w = .ok (.enter g ys) w:=by
 have ha:RL F w (.ofList (c.args.toList.map ρ)) n m (c.args.map a.eval).toList:=by
  simpa using Vw (a:=a) hρ c.args.toList
 obtain ⟨ys,h1,h2⟩:=Zfo (P:=P) hc (hρ f) ha
 refine ⟨ys,h1,?_⟩
 obtain ⟨hrun,hys⟩:=h2 w
 simp only [execOp,ho,resolve,hcal,Sem.run_bind,hrun,Result.andThen_ok,invoke,ZdR hg,hys]
theorem XE {E:Env} {o:Oper} {sem:Sem Value} {T:Tree V} {Q:V->Prop} {K:Act->World->Prop} {Qx:Exit->Act->World->Prop}
  (hx:execOp a.eval o = (do pure (.value (<- sem)):Sem Next)) (hv:Val E.P F w n m T sem) (hq:T.holds E.P Q)
  (hK:∀ v x w' F',Q v->Later F w F' w'->R F' w' v n m x->K (a.put o.dst x) w'):o.wp E.P a w K Qx:=by
 obtain ⟨v,x,h1,h2,h3⟩:=hv Q hq
 unfold Oper.wp
 rw [hx]
 simp only [Sem.run_bind,h2,Result.andThen_ok,Sem.run_pure,Oper.upon]
 exact hK v x w F h1 (Later.refl F w) h3
theorem RL_rep {zero:V} {z:List Value} (hz:RL F w zero n m z):∀ k,RL F w (rep k zero) n m (List.replicate k z).flatten:=by
 intro k
 induction k with
 | zero=>simp only [rep,List.replicate_zero,List.flatten_nil,RL]
 | succ k ih=>
  have e:rep (k + 1) zero = zero.app (rep k zero):=rfl
  rw [e,List.replicate_succ,List.flatten_cons]
  exact VQ _ _ hz _ _ ih
theorem ZkT (z:List Value) (k i:Nat) (_hz:0 < z.length) (hi:i < k * z.length):(List.replicate k z).flatten[i]? = z[i % z.length]?:=by
 induction k generalizing i with
 | zero=>simp at hi
 | succ k ih=>
  rw [List.replicate_succ,List.flatten_cons]
  by_cases h1:i < z.length
  ·rw [List.getElem?_append_left h1,Nat.mod_eq_of_lt h1]
  ·have e:i % z.length = (i - z.length) % z.length:=Nat.mod_eq_sub_mod (by omega)
   have hk:i - z.length < k * z.length:=by rw [Nat.add_mul,Nat.one_mul] at hi; omega
   rw [List.getElem?_append_right (by omega),ih (i - z.length) hk,e]
theorem Zkk (z:Array Value) (k:Nat):((Array.range (k * z.size)).map fun i=>z[i % z.size]!) = (List.replicate k z.toList).flatten.toArray:=by
 apply Array.ext'
 apply List.ext_getElem?
 intro i
 by_cases hi:i < k * z.size
 ·have hz:0 < z.size:=by
   rcases Nat.eq_zero_or_pos z.size with h | h
   ·rw [h,Nat.mul_zero] at hi; omega
   ·exact h
  have hm:i % z.size < z.size:=Nat.mod_lt _ hz
  rw [List.toList_toArray,ZkT z.toList k i (by simpa using hz) (by simpa using hi)]
  simp only [Array.length_toList,Array.toList_map,Array.toList_range,List.getElem?_map,List.getElem?_range hi,Option.map_some,Array.getElem?_toList]
  rw [Array.getElem?_eq_getElem hm,getElem!_pos z _ hm]
 ·rw [List.getElem?_eq_none (by simp; omega),List.getElem?_eq_none (by simp [List.length_flatten]; omega)]
theorem run_buildSlice {E:Env} {o:Oper} {t:TypeId} {len:Nat} {parts:Array (Nat×Operand)} {z:Nat} {cs:V}
  (ho:o.op = .buildSlice t len parts) (hρ:∀ x,R F w (ρ x) n m (a.eval x)) (hq:KN E.P t len (parts.toList.map fun p=>(p.1,ρ p.2)) = some (z,cs)) :
  ∃ (outc:Array Value) (e:TypeId),(execOp a.eval o).run E.P w = .ok (.value (.slice (some ⟨w.heap.size,0,none⟩) len len)) (w.alloc (.cells outc e))/\RL F w cs n m outc.toList/\outc.size = len * z:=by
 unfold KN at hq
 cases hu:E.P.underlying t with
 | none=>rw [hu] at hq; cases hq
 | some d=>
  rw [hu] at hq
  cases d <;> try (cases hq; done)
  rename_i e
  dsimp only at hq
  cases hz:ZB E.P e with
  | none=>rw [hz] at hq; cases hq
  | some z'=>
   rw [hz] at hq
   cases hzero:Xc E.P e with
   | none=>rw [hzero] at hq; cases hq
   | some zero=>
    rw [hzero] at hq
    dsimp only at hq
    obtain ⟨zv,hzv,hzr⟩:=JN (F:=F) (w:=w) (n:=n) (m:=m) hzero
    rw [Y5 _ _ hzr] at hq
    cases h1:Nat.beq zv.cells.toList.length z'
    ·rw [h1] at hq; cases hq
    ·cases h2:Nat.ble (len * z') 16777216
     ·rw [h1,h2] at hq; cases hq
     ·rw [h1,h2] at hq
      simp only [Bool.and_self,cond_true] at hq
      have h1':zv.cells.size = z':=by simpa using Nat.eq_of_beq_eq_true h1
      have h2':=Nat.le_of_ble_eq_true h2
      have hparts:Parts F w n m (parts.toList.map fun p=>(p.1,ρ p.2)) (parts.map fun p=>(p.1,a.eval p.2)).toList:=by
       simpa using ZgG (a:=a) hρ parts.toList
      cases hf:J4 E.P (fun i=>some (i * z',z')) (rep len zero) (parts.toList.map fun p=>(p.1,ρ p.2)) with
      | none=>rw [hf] at hq; cases hq
      | some cs'=>
       rw [hf] at hq
       dsimp only at hq
       injection hq with hq
       injection hq with e1 e2
       subst e1; subst e2
       obtain ⟨outc,g1,g2,g3⟩:=ZfU _ _ hparts _ _ (List.replicate len zv.cells.toList).flatten.toArray hf (by simpa using RL_rep hzr len)
       have hsize:outc.size = len * z':=by rw [g3]; simp [List.length_flatten,h1']
       have hzeros:∀ zz:Array Value,(len * z' ≠ 0->zz = zv.cells) ->
         ((Array.range (len * z')).map fun i=>zz[i % zz.size]!) = (List.replicate len zv.cells.toList).flatten.toArray:=by
        intro zz hzz
        by_cases h0:len * z' = 0
        ·rw [h0]
         have:(List.replicate len zv.cells.toList).flatten = []:=by
          apply List.eq_nil_of_length_eq_zero
          simp [List.length_flatten,h1',h0]
         rw [this]; simp
        ·rw [hzz h0,<- h1',Zkk]
       refine ⟨outc,e,?_,g2,hsize⟩
       simp only [execOp,ho,Instr.buildSlice,Sem.run_bind,run_underlying hu,Result.andThen_ok,Y9 hz]
       rw [if_neg (show ¬ len * z' > 2 ^ 24 by omega)]
       by_cases h0:len * z' = 0
       ·simp only [h0,if_true,pure_bind]
        have:=hzeros #[] (fun h=>absurd h0 h)
        rw [h0] at this
        rw [this,g1]
        rfl
       ·simp only [h0,if_false,Sem.run_bind,hzv,Result.andThen_ok,pure_bind]
        rw [hzeros zv.cells (fun _=>rfl),g1]
        rfl
theorem wp_bytes {E:Env} {o:Oper} {src dst:TypeId} {x:Operand} {T:Tree V} {Q:V->Prop} {K:Act->World->Prop} {Qx:Exit->Act->World->Prop}
  (ho:o.op = .convert src dst x) (hρ:∀ x,R F w (ρ x) n m (a.eval x)) (hT:ZbX E.P src dst (ρ x) = some T) (hq:T.holds E.P Q)
  (hK:∀ v x w' F',Q v->Later F w F' w'->R F' w' v n m x->K (a.put o.dst x) w'):o.wp E.P a w K Qx:=by
 unfold ZbX at hT
 split at hT
 ·rename_i st s hx
  split at hT
  ·rename_i hs
   split at hT
   ·rename_i e hd
    split at hT
    ·rename_i he
     injection hT with hT; subst hT
     have hv:=hρ x
     rw [hx,Wx] at hv
     have hrun:=Lib.run_convert_string_bytes (P:=E.P) w src dst e ⟨s.toArray⟩ hs hd he
     have hrun2:(execOp a.eval o).run E.P w = .ok (.value (.slice (some ⟨w.heap.size,0,none⟩) s.length (grownCap w s.length 0 e))) (Lib.bytesWorld w e ⟨s.toArray⟩):=by
      simp only [execOp,ho,Sem.run_bind,hv,hrun,Result.andThen_ok,Sem.run_pure]
      rfl
     unfold Oper.wp
     rw [hrun2]
     simp only [Oper.upon]
     have hcalm:Calm w (Lib.bytesWorld w e ⟨s.toArray⟩):=⟨rfl,rfl,rfl⟩
     have hsz:(Lib.bytesWorld w e ⟨s.toArray⟩).heap.size = w.heap.size + 1:=Lib.bytesWorld_size w e _
     refine hK _ _ _ (fun B=>F B\/B = w.heap.size) hq ⟨fun _ h=>.inl h,fun B h=>h.elim .inl fun h=>.inr (by omega),fun B hB=>Lib.bytesWorld_at_old w e _ B hB,by omega,fun hd B hB=>?_,hcalm⟩ ?_
     ·rcases hB with h | h
      ·have:=hd B h; omega
      ·omega
     ·rw [Xk]
      refine ⟨_,_,rfl,grownCap_ge w s.length 0 e,.inr ⟨w.heap.size,0,rfl,.inr rfl,_,_,_,Lib.bytesWorld_at_new w e _,fun j hj=>⟨[.int .u8 (Int.ofNat (s.getD j 0).toNat)],?_,rfl,fun q hq=>?_⟩⟩⟩
      ·simp only [RL,R]
       exact ⟨_,_,rfl,rfl,rfl⟩
      ·obtain rfl:q = 0:=by omega
       simp [Lib.bytesCells,Array.getElem?_append,hj,List.getD]
    ·cases hT
   ·cases hT
  ·cases hT
 ·cases hT
end
end Go.Fw
end
