/- Maps: what is found in a row of entries, behind what is put there and taken away. -/
import Derived.WalkKit
import Derived.MapKept
import Derived.RangeFuncRecord
import Derived.Maps.RangeRun
import GoSem.Instr.MapUpdate
import GoSem.Builtin.Delete
import Derived.Laws.Cells
import Derived.ChangeKeysEq
import Derived.CallsIn
import Derived.TacticsIn
import Derived.OrdersIn
set_option maxRecDepth 100000
set_option linter.unusedVariables false
set_option linter.unusedSimpArgs false
noncomputable section
namespace Go.Fw
inductive MK where
 | int (k:IntKind)
 | str
def MK.is:MK->Value->Bool
 | .int k,.int k' _=>decide (k = k')
 | .str,.string _=>true
 | _,_=>false
def MK.of:MK->TypeDesc->Bool
 | .int k,.int k'=>decide (k = k')
 | .str,.string=>true
 | _,_=>false
def Zj:Value->Value->Bool
 | .int _ a,.int _ b=>a==b
 | .string a,.string b=>a==b
 | _,_=>false
theorem bytes_eq (a b:ByteArray):(a==b) = true↔a = b:=by
 cases a; cases b
 rename_i x y
 show (x==y) = true↔_
 rw [beq_iff_eq]; simp
theorem X7 {kd:MK} {x y:Value} (hx:kd.is x = true) (hy:kd.is y = true):Zj x y = true↔x = y:=by
 cases kd with
 | int k=>
  cases x <;> try (cases hx; done)
  rename_i k1 a
  cases y <;> try (cases hy; done)
  rename_i k2 b
  simp only [MK.is,decide_eq_true_eq] at hx hy
  subst hx; subst hy
  simp [Zj]
 | str=>
  cases x <;> try (cases hx; done)
  cases y <;> try (cases hy; done)
  simp only [Zj,bytes_eq,Value.string.injEq]
theorem ZjT {kd:MK} {d:TypeDesc} {x y:Value} (hd:kd.of d = true) (hx:kd.is x = true) (hy:kd.is y = true):Instr.sameNow d x y = some (Zj x y):=by
 cases kd with
 | int k=>
  cases d <;> try (cases hd; done)
  cases x <;> try (cases hx; done)
  rename_i k1 a
  cases y <;> try (cases hy; done)
  rename_i k2 b
  simp only [MK.is,decide_eq_true_eq] at hx hy
  subst hx; subst hy
  simp [Instr.sameNow,Zj]
 | str=>
  cases d <;> try (cases hd; done)
  cases x <;> try (cases hx; done)
  cases y <;> try (cases hy; done)
  simp [Instr.sameNow,Zj]
def YA (key:Value):List MapEntry->Option (Nat×Value)
 | []=>none
 | e :: es=>match Zj key e.key with
  | true=>some (0,e.val)
  | false=>(YA key es).map fun p=>(p.1 + 1,p.2)
theorem ZlE {kd:MK} {d:TypeDesc} {key:Value} (hd:kd.of d = true) (hk:kd.is key = true):∀ (es:List MapEntry) (i:Nat),(∀ e ∈ es,kd.is e.key = true) ->
  Instr.findNow d key es i = some ((YA key es).map fun p=>(i + p.1,p.2)):=by
 intro es
 induction es with
 | nil=>intro i _; rfl
 | cons e es ih=>
  intro i h
  simp only [Instr.findNow,ZjT hd hk (h e (by simp)),YA]
  cases Zj key e.key
  ·dsimp only
   rw [ih (i + 1) fun e he=>h e (List.mem_cons_of_mem _ he)]
   cases YA key es with
   | none=>rfl
   | some p=>simp; omega
  ·rfl
structure Entries (kd:MK) (es:List MapEntry):Prop where
 is:∀ e ∈ es,kd.is e.key = true
 one:(es.map (·.key)).Nodup
theorem Entries.nil {kd:MK}:Entries kd []:=⟨fun e h=>(by cases h),List.nodup_nil⟩
def YV (key:Value) (es:List MapEntry):Option Value:=(YA key es).map (·.2)
abbrev Ks:=Option (Nat×List (Nat×Value))
def X9 (e:MapEntry):Nat×Value:=(e.born,e.key)
structure J2 (kd:MK) (ks:Ks) (es:Array MapEntry) (clock:Nat):Prop where
 ent:Entries kd es.toList
 told:∀ c l,ks = some (c,l)->clock = c/\es.toList.map X9 = l
theorem J2.unk {kd:MK} {es:Array MapEntry} {clock:Nat} (h:Entries kd es.toList):J2 kd none es clock:=⟨h,fun _ _ e=>by cases e⟩
def putKs (put lit:Bool) (ks:Ks) (key:Value):Ks:=
 match put,lit with
 | true,true=>match ks with
  | some (c,l)=>bif l.any (fun e=>Zj key e.2) then some (c,l) else some (c + 1,l ++ [(c,key)])
  | none=>none
 | _,_=>none
theorem ZaF {key:Value}:∀ es:List MapEntry,YA key es = none↔∀ e ∈ es,Zj key e.key = false:=by
 intro es
 induction es with
 | nil=>simp [YA]
 | cons e es ih=>
  simp only [YA,List.mem_cons,forall_eq_or_imp]
  cases h:Zj key e.key
  ·simp [ih]
  ·simp
theorem ZbM {key:Value}:∀ (es:List MapEntry) {i:Nat} {v:Value},YA key es = some (i,v)->∃ e,es[i]? = some e/\Zj key e.key = true/\e.val = v:=by
 intro es
 induction es with
 | nil=>intro i v h; cases h
 | cons e es ih=>
  intro i v h
  simp only [YA] at h
  cases hk:Zj key e.key
  ·rw [hk] at h
   dsimp only at h
   cases hm:YA key es with
   | none=>rw [hm] at h; cases h
   | some p=>
    rw [hm] at h
    simp only [Option.map_some,Option.some.injEq,Prod.mk.injEq] at h
    obtain ⟨rfl,rfl⟩:=h
    obtain ⟨e',h1,h2⟩:=ih (i:=p.1) (v:=p.2) hm
    exact ⟨e',by simpa using h1,h2⟩
  ·rw [hk] at h
   simp only [Option.some.injEq,Prod.mk.injEq] at h
   obtain ⟨rfl,rfl⟩:=h
   exact ⟨e,rfl,hk,rfl⟩
theorem Zl8 {key k:Value} {v:Value} {c:Nat}:∀ (es:List MapEntry),YA key es = none->YV k (es ++ [{ key,val:=v,born:=c }]) = (match Zj k key with
  | true=>(match YV k es with | some x=>some x | none=>some v)
  | false=>YV k es):=by
 intro es
 induction es with
 | nil=>intro _; simp only [List.nil_append,YV,YA]; cases Zj k key <;> rfl
 | cons e es ih=>
  intro h
  have h':=ZaF (e :: es) |>.1 h
  have h2:YA key es = none:=(ZaF es).2 fun e he=>h' e (List.mem_cons_of_mem _ he)
  have:=ih h2
  simp only [YV,List.cons_append,YA] at this ⊢
  cases hk:Zj k e.key
  ·dsimp only
   rw [Option.map_map,Option.map_map]
   exact this
  ·dsimp only
   cases Zj k key <;> rfl
theorem ZjM {kd:MK} {key k v:Value} (hkey:kd.is key = true) (hk:kd.is k = true):∀ (es:List MapEntry) {i:Nat} {x:Value},(∀ e ∈ es,kd.is e.key = true)->YA key es = some (i,x) ->
  YV k (es.modify i fun e=>{ e with key,val:=v }) = (match Zj k key with | true=>some v | false=>YV k es):=by
 intro es
 induction es with
 | nil=>intro i x _ h; cases h
 | cons e es ih=>
  intro i x his h
  have he:=his e (by simp)
  simp only [YA] at h
  cases hke:Zj key e.key
  ·rw [hke] at h
   dsimp only at h
   cases hm:YA key es with
   | none=>rw [hm] at h; cases h
   | some p=>
    rw [hm] at h
    simp only [Option.map_some,Option.some.injEq,Prod.mk.injEq] at h
    obtain ⟨rfl,rfl⟩:=h
    have:=ih (i:=p.1) (x:=p.2) (fun e he=>his e (List.mem_cons_of_mem _ he)) hm
    simp only [List.modify_succ_cons,YV,YA] at this ⊢
    cases hk2:Zj k e.key
    ·dsimp only
     rw [Option.map_map,Option.map_map]
     exact this
    ·dsimp only
     have e1:=(X7 hk he).1 hk2
     have:Zj k key = false:=by
      cases h3:Zj k key
      ·rfl
      ·have e2:=(X7 hk hkey).1 h3
       rw [e2] at e1; rw [<- e1] at hke
       rw [(X7 hkey hkey).2 rfl] at hke; cases hke
     rw [this]
  ·rw [hke] at h
   simp only [Option.some.injEq,Prod.mk.injEq] at h
   obtain ⟨rfl,rfl⟩:=h
   have e1:=(X7 hkey he).1 hke
   simp only [List.modify_zero_cons,YV,YA]
   rw [<- e1]
   cases Zj k key <;> rfl
theorem Entries.push {kd:MK} {key v:Value} {c:Nat} {es:List MapEntry} (h:Entries kd es) (hk:kd.is key = true) (hn:YA key es = none):Entries kd (es ++ [{ key,val:=v,born:=c }]):=by
 refine ⟨fun e he=>?_,?_⟩
 ·rcases List.mem_append.1 he with h1 | h1
  ·exact h.is e h1
  ·simp only [List.mem_singleton] at h1; subst h1; exact hk
 ·rw [List.map_append,List.nodup_append]
  refine ⟨h.one,by simp,fun a ha b hb=>?_⟩
  simp only [List.map_cons,List.map_nil,List.mem_singleton] at hb
  subst hb
  obtain ⟨e,he,rfl⟩:=List.mem_map.1 ha
  intro e1
  have:=(ZaF es).1 hn e he
  rw [<- e1] at this
  have h3:=(X7 (h.is e he) (h.is e he)).2 rfl
  rw [h3] at this; cases this
theorem Zmt {key v:Value}:∀ (es:List MapEntry) (i:Nat),(∀ e,es[i]? = some e->e.key = key)->(es.modify i fun e=>{ e with key,val:=v }).map (·.key) = es.map (·.key):=by
 intro es
 induction es with
 | nil=>intro i _; simp
 | cons e es ih=>
  intro i h
  cases i with
  | zero=>simp only [List.modify_zero_cons,List.map_cons]; rw [h e rfl]
  | succ i=>simp only [List.modify_succ_cons,List.map_cons]; rw [ih i fun e' he'=>h e' (by simpa using he')]
theorem Entries.set {kd:MK} {key v x:Value} {es:List MapEntry} {i:Nat} (h:Entries kd es) (hk:kd.is key = true) (hf:YA key es = some (i,x)):Entries kd (es.modify i fun e=>{ e with key,val:=v }):=by
 have hkeys:(es.modify i fun e=>{ e with key,val:=v }).map (·.key) = es.map (·.key):=Zmt es i fun e he=>by
  obtain ⟨e',h1,h2,_⟩:=ZbM es hf
  rw [he] at h1; injection h1 with h1; subst h1
  exact ((X7 hk (h.is e (List.mem_of_getElem? he))).1 h2).symm
 refine ⟨fun e he=>?_,by rw [hkeys]; exact h.one⟩
 have:e.key ∈ es.map (·.key):=by rw [<- hkeys]; exact List.mem_map.2 ⟨e,he,rfl⟩
 obtain ⟨e',h1,h2⟩:=List.mem_map.1 this
 rw [<- h2]; exact h.is e' h1
theorem Zmv {kd:MK} {key k:Value} (hkey:kd.is key = true) (hk:kd.is k = true):∀ (es:List MapEntry) {i:Nat} {x:Value},Entries kd es->YA key es = some (i,x) ->
  YV k (es.eraseIdx i) = (match Zj k key with | true=>none | false=>YV k es):=by
 intro es
 induction es with
 | nil=>intro i x _ h; cases h
 | cons e es ih=>
  intro i x hE h
  have he:=hE.is e (by simp)
  have hE':Entries kd es:=⟨fun e he=>hE.is e (List.mem_cons_of_mem _ he),(List.nodup_cons.1 hE.one).2⟩
  simp only [YA] at h
  cases hke:Zj key e.key
  ·rw [hke] at h
   dsimp only at h
   cases hm:YA key es with
   | none=>rw [hm] at h; cases h
   | some p=>
    rw [hm] at h
    simp only [Option.map_some,Option.some.injEq,Prod.mk.injEq] at h
    obtain ⟨rfl,rfl⟩:=h
    have:=ih (i:=p.1) (x:=p.2) hE' hm
    simp only [List.eraseIdx_cons_succ,YV,YA] at this ⊢
    cases hk2:Zj k e.key
    ·dsimp only
     rw [Option.map_map,Option.map_map]
     exact this
    ·dsimp only
     have e1:=(X7 hk he).1 hk2
     have:Zj k key = false:=by
      cases h3:Zj k key
      ·rfl
      ·have e2:=(X7 hk hkey).1 h3
       rw [e2] at e1; rw [e1] at hke
       rw [(X7 he he).2 rfl] at hke; cases hke
     rw [this]
  ·rw [hke] at h
   simp only [Option.some.injEq,Prod.mk.injEq] at h
   obtain ⟨rfl,rfl⟩:=h
   have e1:=(X7 hkey he).1 hke
   have hnot:∀ e' ∈ es,e'.key ≠ key:=fun e' he' h3=>(List.nodup_cons.1 hE.one).1 (List.mem_map.2 ⟨e',he',h3.trans e1⟩)
   simp only [List.eraseIdx_cons_zero,YV,YA]
   cases hk2:Zj k key
   ·have:Zj k e.key = false:=by rw [<- e1]; exact hk2
    rw [this,Option.map_map]; rfl
   ·have e2:=(X7 hk hkey).1 hk2
    dsimp only
    have:YA k es = none:=(ZaF es).2 fun e' he'=>by
     cases h4:Zj k e'.key
     ·rfl
     ·exact absurd ((X7 hk (hE'.is e' he')).1 h4).symm (by rw [e2]; exact hnot e' he')
    rw [this]; rfl
theorem Entries.erase {kd:MK} {es:List MapEntry} {i:Nat} (h:Entries kd es):Entries kd (es.eraseIdx i):=
 ⟨fun e he=>h.is e (List.mem_of_mem_eraseIdx he),by
  have:List.Sublist ((es.eraseIdx i).map (·.key)) (es.map (·.key)):=(List.eraseIdx_sublist es i).map _
  exact this.nodup h.one⟩
end Go.Fw
namespace Go.Fw
section
variable {P:Program} {w:World} {t kt et:TypeId} {d:TypeDesc} {kd:MK} {r:Nat} {es:Array MapEntry} {clock:Nat} {key:Value}
theorem ZdA (hkd:kd.of d = true) (hk:kd.is key = true):MapKept.IsKey d key:=by
 cases kd <;> cases d <;> first | (cases hkd; done) | skip
 ·cases key <;> first | (cases hk; done) | skip
  simp only [MK.of,MK.is,decide_eq_true_eq] at hkd hk
  subst hkd; subst hk; rfl
 ·cases key <;> first | (cases hk; done) | trivial
theorem Za3 (hd:P.underlying kt = some d) (hkd:kd.of d = true) (hE:Entries kd es.toList) (hk:kd.is key = true):(Instr.findKey kt key es.toList).run P w = .ok (YA key es.toList) w:=by
 refine MapKept.run_findKey hd ?_
 rw [ZlE hkd hk es.toList 0 hE.is]
 cases YA key es.toList <;> simp
theorem ZhW {lit:Bool} {ks:Ks} {key:Value} {c:Nat} {l:List (Nat×Value)} (h:putKs true lit ks key = some (c,l)) :
  ∃ c0 l0,ks = some (c0,l0)/\(bif l0.any (fun e=>Zj key e.2) then (c0,l0) else (c0 + 1,l0 ++ [(c0,key)])) = (c,l)/\lit = true:=by
 cases lit with
 | false=>cases h
 | true=>
  cases ks with
  | none=>cases h
  | some p=>
   obtain ⟨c0,l0⟩:=p
   refine ⟨c0,l0,rfl,?_,rfl⟩
   simp only [putKs] at h
   cases hb:l0.any (fun e=>Zj key e.2) <;> rw [hb] at h <;> simpa using h
theorem ZjE {key v:Value}:∀ (es:List MapEntry) (i:Nat),(∀ e,es[i]? = some e->e.key = key)->(es.modify i fun e=>{ e with key,val:=v }).map X9 = es.map X9:=by
 intro es
 induction es with
 | nil=>intro i _; simp
 | cons e es ih=>
  intro i h
  cases i with
  | zero=>simp only [List.modify_zero_cons,List.map_cons,X9]; rw [h e rfl]
  | succ i=>simp only [List.modify_succ_cons,List.map_cons]; rw [ih i fun e' he'=>h e' (by simpa using he')]
theorem Zld (hm:P.underlying t = some (.map kt et)) (hd:P.underlying kt = some d) (hkd:kd.of d = true) (hb:w.heap[r]? = some (.map es clock)) (hE:Entries kd es.toList) (hk:kd.is key = true) (v:Value) :
  ∃ es' clock',(Instr.mapUpdate t (.map (some r)) key v).run P w = .ok () (w.putObj r (.map es' clock'))/\Entries kd es'.toList/\(∀ k,kd.is k = true->YV k es'.toList = (match Zj k key with | true=>some v | false=>YV k es.toList))/\∀ (lit:Bool) (ks:Ks),J2 kd ks es clock->J2 kd (putKs true lit ks key) es' clock':=by
 have hK:=ZdA hkd hk
 cases hf:YA key es.toList with
 | none=>
  refine ⟨es.push { key,val:=v,born:=clock },clock + 1,?_,?_,fun k hk'=>?_,fun lit ks ho=>⟨by rw [Array.toList_push]; exact hE.push hk hf,fun c l e=>?_⟩⟩
  ·have h1:=Za3 (w:=w) hd hkd hE hk
   rw [hf] at h1
   simp [Instr.mapUpdate,run_underlying hm,MapKept.run_getObj_map hb,MapKept.run_checkKey hd hK,h1,MapKept.run_setObj_map _ hb,Result.andThen,World.putObj]
  ·rw [Array.toList_push]; exact hE.push hk hf
  ·rw [Array.toList_push,Zl8 es.toList hf]
   cases hkk:Zj k key
   ·rfl
   ·have:=(X7 hk' hk).1 hkk
    subst this
    simp only [YV,hf,Option.map_none]
  ·obtain ⟨c0,l0,h1,h2,rfl⟩:=ZhW e
   obtain ⟨rfl,rfl⟩:=ho.told _ _ h1
   have hany:(es.toList.map X9).any (fun e=>Zj key e.2) = false:=by
    rw [List.any_eq_false]
    intro x hx
    obtain ⟨e',he',rfl⟩:=List.mem_map.1 hx
    have:=(ZaF es.toList).1 hf e' he'
    simpa [X9] using this
   rw [hany] at h2
   simp only [cond_false,Prod.mk.injEq] at h2
   obtain ⟨rfl,rfl⟩:=h2
   exact ⟨rfl,by rw [Array.toList_push,List.map_append]; rfl⟩
 | some p=>
  obtain ⟨i,x⟩:=p
  refine ⟨es.modify i fun e=>{ e with key,val:=v },clock,?_,?_,fun k hk'=>?_,fun lit ks ho=>⟨by rw [Array.toList_modify]; exact hE.set hk hf,fun c l e=>?_⟩⟩
  ·have h1:=Za3 (w:=w) hd hkd hE hk
   rw [hf] at h1
   obtain ⟨e,he1,he2,he3⟩:=ZbM es.toList hf
   have he4:e.key = key:=((X7 hk (hE.is e (List.mem_of_getElem? he1))).1 he2).symm
   have he5:es[i]? = some e:=by rw [<- Array.getElem?_toList]; exact he1
   simp [Instr.mapUpdate,run_underlying hm,MapKept.run_getObj_map hb,MapKept.run_checkKey hd hK,h1,he5,he4,MapKept.run_keyThatStays hK,MapKept.run_setObj_map _ hb,Result.andThen,World.putObj]
  ·rw [Array.toList_modify]; exact hE.set hk hf
  ·rw [Array.toList_modify]; exact ZjM hk hk' es.toList hE.is hf
  ·obtain ⟨c0,l0,h1,h2,rfl⟩:=ZhW e
   obtain ⟨rfl,rfl⟩:=ho.told _ _ h1
   obtain ⟨e1,he1,he2,he3⟩:=ZbM es.toList hf
   have he4:e1.key = key:=((X7 hk (hE.is e1 (List.mem_of_getElem? he1))).1 he2).symm
   have hany:(es.toList.map X9).any (fun e=>Zj key e.2) = true:=by
    rw [List.any_eq_true]
    exact ⟨X9 e1,List.mem_map.2 ⟨e1,List.mem_of_getElem? he1,rfl⟩,he2⟩
   rw [hany] at h2
   simp only [cond_true,Prod.mk.injEq] at h2
   obtain ⟨rfl,rfl⟩:=h2
   exact ⟨rfl,by rw [Array.toList_modify]; exact ZjE es.toList i fun e' h'=>by rw [he1] at h'; injection h' with h'; subst h'; exact he4⟩
theorem Zix (hm:P.underlying t = some (.map kt et)) (hd:P.underlying kt = some d) (hkd:kd.of d = true) (hb:w.heap[r]? = some (.map es clock)) (hE:Entries kd es.toList) (hk:kd.is key = true) {z:Value} (hz:(zeroValue et).run P w = .ok z w) (ok:Bool) :
  (Instr.lookup t (.map (some r)) key ok).run P w = .ok (if ok then .tuple #[((YV key es.toList).getD z),.bool (YV key es.toList).isSome] else (YV key es.toList).getD z) w:=by
 have hK:=ZdA hkd hk
 have h1:=Za3 (w:=w) hd hkd hE hk
 unfold YV
 cases hf:YA key es.toList with
 | none=>
  rw [hf] at h1
  cases ok <;> simp [Instr.lookup,run_underlying hm,MapKept.run_getObj_map hb,MapKept.run_checkKey hd hK,h1,hz,Result.andThen]
 | some p=>
  rw [hf] at h1
  cases ok <;> simp [Instr.lookup,run_underlying hm,MapKept.run_getObj_map hb,MapKept.run_checkKey hd hK,h1,Result.andThen]
theorem ZiN (hm:P.underlying t = some (.map kt et)) (hd:P.underlying kt = some d) (hkd:kd.of d = true) (hk:kd.is key = true) {z:Value} (hz:(zeroValue et).run P w = .ok z w) (ok:Bool) :
  (Instr.lookup t (.map none) key ok).run P w = .ok (if ok then .tuple #[z,.bool false] else z) w:=by
 have hK:=ZdA hkd hk
 have h1:=Za3 (w:=w) (es:=#[]) hd hkd Entries.nil hk
 cases ok <;> simp [Instr.lookup,run_underlying hm,MapKept.run_checkKey hd hK,h1,hz,YA,Result.andThen]
theorem run_erase (hm:P.underlying t = some (.map kt et)) (hd:P.underlying kt = some d) (hkd:kd.of d = true) (hb:w.heap[r]? = some (.map es clock)) (hE:Entries kd es.toList) (hk:kd.is key = true) (ty:TypeId) (ts:Array TypeId) (hts:ts[0]? = some t) :
  ∃ es' clock',(Builtin.delete_ ts ty #[.map (some r),key]).run P w = .ok (.tuple #[]) (w.putObj r (.map es' clock'))/\Entries kd es'.toList/\∀ k,kd.is k = true->YV k es'.toList = (match Zj k key with | true=>none | false=>YV k es.toList):=by
 have hK:=ZdA hkd hk
 have h1:=Za3 (w:=w) hd hkd hE hk
 cases hf:YA key es.toList with
 | none=>
  rw [hf] at h1
  refine ⟨es,clock,?_,hE,fun k hk'=>?_⟩
  ·simp [Builtin.delete_,hts,run_underlying hm,MapKept.run_getObj_map hb,MapKept.run_checkKey hd hK,h1,MapKept.run_setObj_map _ hb,Result.andThen,World.putObj]
  ·cases hkk:Zj k key
   ·rfl
   ·have:=(X7 hk' hk).1 hkk
    subst this
    simp only [YV,hf,Option.map_none]
 | some p=>
  obtain ⟨i,x⟩:=p
  rw [hf] at h1
  obtain ⟨e,he1,_,_⟩:=ZbM es.toList hf
  have hi:i < es.size:=by
   rcases Nat.lt_or_ge i es.size with h | h
   ·exact h
   ·rw [List.getElem?_eq_none (by simpa using h)] at he1; cases he1
  have hel:(es.eraseIdxIfInBounds i).toList = es.toList.eraseIdx i:=by
   unfold Array.eraseIdxIfInBounds
   rw [dif_pos hi]
   simp
  refine ⟨es.eraseIdxIfInBounds i,clock,?_,by rw [hel]; exact hE.erase,fun k hk'=>?_⟩
  ·simp [Builtin.delete_,hts,run_underlying hm,MapKept.run_getObj_map hb,MapKept.run_checkKey hd hK,h1,MapKept.run_setObj_map _ hb,Result.andThen,World.putObj]
  ·rw [hel]; exact Zmv hk hk' es.toList hE hf
end
def leftL (seen:List Nat) (l:List (Nat×Value)):List (Nat×Value):=l.filter fun e=>!seen.contains e.1
def oldL (since:Nat):List (Nat×Value)->Bool
 | []=>true
 | e :: l=>Nat.blt e.1 since&&((l.all fun x=>!Nat.beq x.1 e.1)&&oldL since l)
theorem Zh2 {since:Nat}:∀ {l:List (Nat×Value)},oldL since l = true->(∀ x ∈ l,x.1 < since)/\(l.map (·.1)).Nodup:=by
 intro l
 induction l with
 | nil=>intro _; exact ⟨fun x h=>(by cases h),List.nodup_nil⟩
 | cons e l ih=>
  intro h
  simp only [oldL,Bool.and_eq_true,List.all_eq_true] at h
  obtain ⟨h1,h2,h3⟩:=h
  obtain ⟨k1,k2⟩:=ih h3
  refine ⟨fun x hx=>?_,?_⟩
  ·rcases List.mem_cons.1 hx with hx | hx
   ·rw [hx]; exact Nat.le_of_ble_eq_true h1
   ·exact k1 x hx
  ·rw [List.map_cons]
   refine List.nodup_cons.2 ⟨fun hm=>?_,k2⟩
   obtain ⟨x,hx,e1⟩:=List.mem_map.1 hm
   have:=h2 x hx
   rw [e1] at this
   simp at this
theorem Zhb (seen:List Nat) (es:Array MapEntry):(leftOf es seen.toArray).toList.map X9 = leftL seen (es.toList.map X9):=by
 unfold leftOf leftL
 rw [Array.toList_filter,List.filter_map]
 congr 1
 refine List.filter_congr fun e _=>?_
 show _ = !seen.contains (X9 e).1
 simp [X9]
theorem Ziv {kd:MK}:∀ {es:List MapEntry},Entries kd es->∀ e ∈ es,YV e.key es = some e.val:=by
 intro es
 induction es with
 | nil=>intro _ e h; cases h
 | cons x es ih=>
  intro hE e he
  have hE':Entries kd es:=⟨fun e he=>hE.is e (List.mem_cons_of_mem _ he),(List.nodup_cons.1 hE.one).2⟩
  simp only [YV,YA]
  rcases List.mem_cons.1 he with rfl | he'
  ·rw [(X7 (hE.is _ he) (hE.is _ he)).2 rfl]; rfl
  ·cases hk:Zj e.key x.key
   ·dsimp only
    rw [Option.map_map]
    have:=ih hE' e he'
    unfold YV at this
    rw [<- this]; rfl
   ·exact absurd (List.mem_map.2 ⟨e,he',(X7 (hE.is _ he) (hE.is _ (by simp))).1 hk⟩) (List.nodup_cons.1 hE.one).1
end Go.Fw
namespace Go.Fw
inductive V where
 | junk
 | undef
 | nil
 | cons (h t:V)
 | int (st:Bool) (k:IntKind) (n:Int)
 | bool (st:Bool) (b:Bool)
 | str (st:Bool) (s:List UInt8)
 | agg (cs:V)
 | tup (vs:V)
 | ptr (st:Bool) (b es i o:Nat)
 | rptr (st:Bool) (es n:Nat) (get:Nat->V) (i o:Nat)
 | nilptr
 | rsl (st:Bool) (es n:Nat) (get:Nat->V)
 | osl (st:Bool) (b es i n:Nat)
 | osp (st:Bool) (b es i n c:Nat)
 | Zz
 | fn (f:Fn) (first cap:V)
 | nilfn
 | nilmap
 | nilif
 | yld (b:Nat)
 | mp (b:Nat)
 | ifc (st b:Bool)
 | esl (nn:Bool) (es:Nat)
 | rmp (st:Bool) (kd:MK) (has:Value->Bool) (get:Value->V)
inductive PT (α:Type) where
 | nil
 | fill (v:α)
 | node (v:Option α) (l r:PT α)
section
variable {α β:Type}
def PT.get:PT α->Nat->Option α
 | .nil,_=>none
 | .fill v,_=>some v
 | .node v l r,i=>bif Nat.beq i 0 then v else bif Nat.beq (i % 2) 1 then l.get (i / 2) else r.get (i / 2 - 1)
def PT.Wj (k:Nat):PT α->Nat->α->PT α:=Nat.rec (fun t _ _=>t) (fun _ ih t i x=>
 match t with
 | .nil=>bif Nat.beq i 0 then .node (some x) .nil .nil else bif Nat.beq (i % 2) 1 then .node none (ih .nil (i / 2) x) .nil else .node none .nil (ih .nil (i / 2 - 1) x)
 | .fill v=>bif Nat.beq i 0 then .node (some x) (.fill v) (.fill v) else bif Nat.beq (i % 2) 1 then .node (some v) (ih (.fill v) (i / 2) x) (.fill v) else .node (some v) (.fill v) (ih (.fill v) (i / 2 - 1) x)
 | .node v l r=>bif Nat.beq i 0 then .node (some x) l r else bif Nat.beq (i % 2) 1 then .node v (ih l (i / 2) x) r else .node v l (ih r (i / 2 - 1) x)) k
def PT.set (t:PT α) (i:Nat) (x:α):PT α:=PT.Wj (i + 1) t i x
def PT.Zam (v:α):PT α->PT α
 | .nil=>.fill v
 | .fill x=>.fill x
 | .node v' l r=>.node (match v' with | some x=>some x | none=>some v) (l.Zam v) (r.Zam v)
def PT.over:PT α->PT α->PT α
 | .nil,u=>u
 | .fill v,u=>u.Zam v
 | .node v l r,u=>match u with
  | .nil=>.node v l r
  | .fill x=>.fill x
  | .node v' l' r'=>.node (match v' with | some x=>some x | none=>v) (l.over l') (r.over r')
def PT.idx (f:Nat->β):PT α->Nat->Nat->PT β
 | .nil,_,_=>.nil
 | .fill _,_,_=>.nil
 | .node v l r,a,b=>.node (match v with | some _=>some (f b) | none=>none) (l.idx f (2 * a) (a + b)) (r.idx f (2 * a) (2 * a + b))
def PT.both (f:Nat->β):PT α->PT α->Nat->Nat->PT β
 | .nil,u,a,b=>u.idx f a b
 | .fill _,_,_,_=>.nil
 | .node v l r,u,a,b=>match u with
  | .nil=>(PT.node v l r).idx f a b
  | .fill _=>.nil
  | .node v' l' r'=>.node (match v with | some _=>some (f b) | none=>match v' with | some _=>some (f b) | none=>none) (l.both f l' (2 * a) (a + b)) (r.both f r' (2 * a) (2 * a + b))
def PT.Qc (p:Nat->Bool):PT α->Nat->Nat->Bool
 | .nil,_,_=>true
 | .fill _,_,_=>false
 | .node v l r,a,b=>(match v with | some _=>p b | none=>true)&&(l.Qc p (2 * a) (a + b)&&r.Qc p (2 * a) (2 * a + b))
def PT.fin:PT α->Bool
 | .nil=>true
 | .fill _=>false
 | .node _ l r=>l.fin&&r.fin
theorem PT.QO (p:Nat->Bool):∀ (t:PT α) (a b:Nat),t.Qc p a b = true->t.fin = true:=by
 intro t
 induction t with
 | nil=>intro a b _; rfl
 | fill v=>intro a b h; cases h
 | node v l r ihl ihr=>
  intro a b h
  simp only [PT.Qc,Bool.and_eq_true] at h
  simp only [PT.fin,Bool.and_eq_true]
  exact ⟨ihl _ _ h.2.1,ihr _ _ h.2.2⟩
theorem PT.get_setF (x:α):∀ (k:Nat) (t:PT α) (i j:Nat),i < k->(PT.Wj k t i x).get j = if j = i then some x else t.get j:=by
 intro k
 induction k with
 | zero=>intro t i j h; omega
 | succ k ih=>
  intro t i j h
  have e:PT.Wj (k + 1) t i x = (match t with
   | .nil=>bif Nat.beq i 0 then .node (some x) .nil .nil else bif Nat.beq (i % 2) 1 then .node none (PT.Wj k .nil (i / 2) x) .nil else .node none .nil (PT.Wj k .nil (i / 2 - 1) x)
   | .fill v=>bif Nat.beq i 0 then .node (some x) (.fill v) (.fill v) else bif Nat.beq (i % 2) 1 then .node (some v) (PT.Wj k (.fill v) (i / 2) x) (.fill v) else .node (some v) (.fill v) (PT.Wj k (.fill v) (i / 2 - 1) x)
   | .node v l r=>bif Nat.beq i 0 then .node (some x) l r else bif Nat.beq (i % 2) 1 then .node v (PT.Wj k l (i / 2) x) r else .node v l (PT.Wj k r (i / 2 - 1) x)):=by cases t <;> rfl
  rw [e]
  have hb:∀ a b:Nat,Nat.beq a b = decide (a = b):=fun a b=>by
   cases h:Nat.beq a b
   ·exact (decide_eq_false fun e=>by subst e; simp at h).symm
   ·exact (decide_eq_true (Nat.eq_of_beq_eq_true h)).symm
  cases t with
  | nil=>
   dsimp only
   rw [hb i 0,hb (i % 2) 1]
   by_cases h0:i = 0
   ·simp only [h0,decide_true,cond_true,PT.get,hb]
    by_cases hj:j = 0 <;> simp [hj]
   ·by_cases h1:i % 2 = 1
    ·simp only [h0,h1,decide_false,decide_true,cond_true,cond_false,PT.get,hb]
     rw [ih _ _ _ (by omega)]
     by_cases hj:j = 0
     ·simp [hj]; omega
     ·by_cases hj1:j % 2 = 1
      ·have e:(j / 2 = i / 2)↔(j = i):=by omega
       simp [hj,hj1,e,PT.get]
      ·have:j ≠ i:=by omega
       simp [hj,hj1,this]
    ·simp only [h0,h1,decide_false,cond_false,PT.get,hb]
     rw [ih _ _ _ (by omega)]
     by_cases hj:j = 0
     ·simp [hj]; omega
     ·by_cases hj1:j % 2 = 1
      ·have:j ≠ i:=by omega
       simp [hj,hj1,this]
      ·have e:(j / 2 - 1 = i / 2 - 1)↔(j = i):=by omega
       simp [hj,hj1,e,PT.get]
  | fill v=>
   dsimp only
   rw [hb i 0,hb (i % 2) 1]
   by_cases h0:i = 0
   ·simp only [h0,decide_true,cond_true,PT.get,hb]
    by_cases hj:j = 0 <;> simp [hj]
   ·by_cases h1:i % 2 = 1
    ·simp only [h0,h1,decide_false,decide_true,cond_true,cond_false,PT.get,hb]
     rw [ih _ _ _ (by omega)]
     by_cases hj:j = 0
     ·simp [hj]; omega
     ·by_cases hj1:j % 2 = 1
      ·have e:(j / 2 = i / 2)↔(j = i):=by omega
       simp [hj,hj1,e,PT.get]
      ·have:j ≠ i:=by omega
       simp [hj,hj1,this]
    ·simp only [h0,h1,decide_false,cond_false,PT.get,hb]
     rw [ih _ _ _ (by omega)]
     by_cases hj:j = 0
     ·simp [hj]; omega
     ·by_cases hj1:j % 2 = 1
      ·have:j ≠ i:=by omega
       simp [hj,hj1,this]
      ·have e:(j / 2 - 1 = i / 2 - 1)↔(j = i):=by omega
       simp [hj,hj1,e,PT.get]
  | node v l r=>
   dsimp only
   rw [hb i 0,hb (i % 2) 1]
   by_cases h0:i = 0
   ·simp only [h0,decide_true,cond_true,PT.get,hb]
    by_cases hj:j = 0 <;> simp [hj]
   ·by_cases h1:i % 2 = 1
    ·simp only [h0,h1,decide_false,decide_true,cond_true,cond_false,PT.get,hb]
     rw [ih _ _ _ (by omega)]
     by_cases hj:j = 0
     ·simp [hj]; omega
     ·by_cases hj1:j % 2 = 1
      ·have e:(j / 2 = i / 2)↔(j = i):=by omega
       simp [hj,hj1,e]
      ·have:j ≠ i:=by omega
       simp [hj,hj1,this]
    ·simp only [h0,h1,decide_false,cond_false,PT.get,hb]
     rw [ih _ _ _ (by omega)]
     by_cases hj:j = 0
     ·simp [hj]; omega
     ·by_cases hj1:j % 2 = 1
      ·have:j ≠ i:=by omega
       simp [hj,hj1,this]
      ·have e:(j / 2 - 1 = i / 2 - 1)↔(j = i):=by omega
       simp [hj,hj1,e]
theorem PT.get_set (t:PT α) (i:Nat) (x:α) (j:Nat):(t.set i x).get j = if j = i then some x else t.get j:=PT.get_setF x (i + 1) t i j (Nat.lt_succ_self i)
theorem PT.get_over:∀ (t u:PT α) (i:Nat),(t.over u).get i = match u.get i with | some x=>some x | none=>t.get i:=by
 intro t
 induction t with
 | nil=>intro u i; simp only [PT.over,PT.get]; cases u.get i <;> rfl
 | fill v=>
  intro u
  show ∀ i,(u.Zam v).get i = match u.get i with | some x=>some x | none=>some v
  induction u with
  | nil=>intro i; rfl
  | fill x=>intro i; rfl
  | node v' l r ihl ihr=>
   intro i
   simp only [PT.Zam,PT.get]
   cases Nat.beq i 0
   ·cases Nat.beq (i % 2) 1
    ·simp only [cond_false]; exact ihr _
    ·simp only [cond_false,cond_true]; exact ihl _
   ·simp only [cond_true]
 | node v l r ihl ihr=>
  intro u i
  cases u with
  | nil=>simp only [PT.over,PT.get]
  | fill x=>simp only [PT.over,PT.get]
  | node v' l' r'=>
   simp only [PT.over,PT.get]
   cases Nat.beq i 0
   ·cases Nat.beq (i % 2) 1
    ·simp only [cond_false]; exact ihr _ _
    ·simp only [cond_false,cond_true]; exact ihl _ _
   ·simp only [cond_true]
theorem place0 (a b i:Nat) (h:Nat.beq i 0 = true):a * i + b = b:=by rw [Nat.eq_of_beq_eq_true h]; simp
theorem place1 (a b i:Nat) (h:Nat.beq (i % 2) 1 = true):a * i + b = 2 * a * (i / 2) + (a + b):=by
 have:=Nat.eq_of_beq_eq_true h
 have e:i = 2 * (i / 2) + 1:=by omega
 generalize i / 2 = k at e
 subst e
 rw [Nat.mul_add,Nat.mul_one,<- Nat.mul_assoc,Nat.mul_comm a 2]
 omega
theorem place2 (a b i:Nat) (h0:Nat.beq i 0 = false) (h:Nat.beq (i % 2) 1 = false):a * i + b = 2 * a * (i / 2 - 1) + (2 * a + b):=by
 have h0':i ≠ 0:=fun e=>by subst e; cases h0
 have h1':i % 2 ≠ 1:=fun e=>by rw [e] at h; cases h
 have e:i = 2 * (i / 2 - 1) + 2:=by omega
 generalize i / 2 - 1 = k at e
 subst e
 rw [Nat.mul_add,<- Nat.mul_assoc,Nat.mul_comm a 2]
 omega
theorem PT.get_idx (f:Nat->β):∀ (t:PT α) (a b i:Nat),t.fin = true->(t.idx f a b).get i = match t.get i with | some _=>some (f (a * i + b)) | none=>none:=by
 intro t
 induction t with
 | nil=>intro a b i _; rfl
 | fill v=>intro a b i h; cases h
 | node v l r ihl ihr=>
  intro a b i hf
  simp only [PT.fin,Bool.and_eq_true] at hf
  simp only [PT.idx,PT.get]
  cases h0:Nat.beq i 0
  ·cases h1:Nat.beq (i % 2) 1
   ·simp only [cond_false]; rw [ihr _ _ _ hf.2,place2 a b i h0 h1]
   ·simp only [cond_false,cond_true]; rw [ihl _ _ _ hf.1,place1 a b i h1]
  ·simp only [cond_true]; rw [place0 a b i h0]
theorem PT.get_both (f:Nat->β):∀ (t u:PT α) (a b i:Nat),t.fin = true->u.fin = true->(t.both f u a b).get i = match t.get i,u.get i with | none,none=>none | _,_=>some (f (a * i + b)):=by
 intro t
 induction t with
 | nil=>intro u a b i _ hu; simp only [PT.both,PT.get]; rw [PT.get_idx _ _ _ _ _ hu]; cases u.get i <;> rfl
 | fill v=>intro u a b i h; cases h
 | node v l r ihl ihr=>
  intro u a b i ht hu
  cases u with
  | nil=>simp only [PT.both]; rw [PT.get_idx _ _ _ _ _ ht]; simp only [PT.get]; split <;> simp_all
  | fill v=>cases hu
  | node v' l' r'=>
   simp only [PT.fin,Bool.and_eq_true] at ht hu
   simp only [PT.both,PT.get]
   cases h0:Nat.beq i 0
   ·cases h1:Nat.beq (i % 2) 1
    ·simp only [cond_false]; rw [ihr _ _ _ _ ht.2 hu.2,place2 a b i h0 h1]
    ·simp only [cond_false,cond_true]; rw [ihl _ _ _ _ ht.1 hu.1,place1 a b i h1]
   ·simp only [cond_true]; rw [place0 a b i h0]; cases v <;> cases v' <;> rfl
theorem PT.allK_get (p:Nat->Bool):∀ (t:PT α) (a b:Nat),t.Qc p a b = true->∀ i x,t.get i = some x->p (a * i + b) = true:=by
 intro t
 induction t with
 | nil=>intro a b _ i x h; cases h
 | fill v=>intro a b h; cases h
 | node v l r ihl ihr=>
  intro a b h i x hx
  simp only [PT.Qc,Bool.and_eq_true] at h
  simp only [PT.get] at hx
  cases h0:Nat.beq i 0
  ·rw [h0] at hx
   cases h1:Nat.beq (i % 2) 1
   ·rw [h1] at hx; rw [place2 a b i h0 h1]; exact ihr _ _ h.2.2 _ _ hx
   ·rw [h1] at hx; rw [place1 a b i h1]; exact ihl _ _ h.2.1 _ _ hx
  ·rw [h0] at hx
   simp only [cond_true] at hx
   subst hx
   rw [place0 a b i h0]
   exact h.1
end
def V.nth:V->Nat->V
 | .cons h t,i=>bif Nat.beq i 0 then h else t.nth (i - 1)
 | _,_=>.junk
def V.len:V->Nat
 | .cons _ t=>t.len + 1
 | _=>0
def V.drop:V->Nat->V
 | .cons h t,i=>bif Nat.beq i 0 then .cons h t else t.drop (i - 1)
 | v,_=>v
def V.take:V->Nat->V
 | .cons h t,i=>bif Nat.beq i 0 then .nil else .cons h (t.take (i - 1))
 | _,_=>.nil
def V.app:V->V->V
 | .cons h t,y=>.cons h (t.app y)
 | _,y=>y
def V.splice:V->Nat->V->V
 | .cons h t,o,vs=>bif Nat.beq o 0 then (match vs with | .cons x r=>.cons x (t.splice 0 r) | _=>.cons h t) else .cons h (t.splice (o - 1) vs)
 | v,_,_=>v
def V.cells:V->V
 | .agg cs=>cs
 | v=>.cons v .nil
def V.ofList:List V->V
 | []=>.nil
 | v :: l=>.cons v (V.ofList l)
def V.clean:V->Bool
 | .cons h t=>h.clean&&t.clean
 | .agg cs=>cs.clean
 | .tup vs=>vs.clean
 | .ptr .. | .osl .. | .osp .. | .yld _ | .mp _=>false
 | .fn _ a b=>a.clean&&b.clean
 | _=>true
def V.solid:V->Bool
 | .junk | .nil | .cons _ _=>false
 | _=>true
def V.cell:V->Bool
 | .junk | .nil | .cons _ _ | .undef | .agg _ | .tup _=>false
 | _=>true
def V.Xp:V->Bool
 | .nil=>true
 | .cons h t=>h.cell&&t.Xp
 | _=>false
def V.KA:Value->V
 | .int k n=>.int true k n
 | .bool b=>.bool true b
 | .string s=>.str true s.data.toList
 | .pointer none=>.nilptr
 | .slice none 0 0=>.Zz
 | .map none=>.nilmap
 | .nilFunc=>.nilfn
 | .nilIface=>.nilif
 | .func f first cap=>match first.toList,cap.toList with | [],[]=>.fn f .nil .nil | _,_=>.junk
 | _=>.junk
def V.ofValue:Value->V
 | .agg cs=>.agg (V.ofList (cs.toList.map V.KA))
 | v=>V.KA v
universe u
def Kh {β:Type u} (m:Nat) (f:Nat->β):β:=Nat.rec (f 0) (fun k _=>f (k + 1)) m
theorem Gy {β:Type u} (m:Nat) (f:Nat->β):Kh m f = f m:=by cases m <;> rfl
def Zdy {β:Type u} (n:Int) (f:Int->β):β:=
 match n with
 | .ofNat m=>Kh m fun m=>f (.ofNat m)
 | .negSucc m=>Kh m fun m=>f (.negSucc m)
theorem ZkA {β:Type u} (n:Int) (f:Int->β):Zdy n f = f n:=by
 cases n <;> simp only [Zdy,Gy]
def mkInt (st:Bool) (k:IntKind) (n:Int):V:=
 match st with
 | true=>Zdy n fun n=>.int true k n
 | false=>.int false k n
theorem Xw (st:Bool) (k:IntKind) (n:Int):mkInt st k n = .int st k n:=by
 cases st <;> simp only [mkInt,ZkA]
def WL (st:Bool) (b:Bool):V:=
 match st with
 | true=>match b with | true=>.bool true true | false=>.bool true false
 | false=>.bool false b
theorem JQ (st:Bool) (b:Bool):WL st b = .bool st b:=by
 cases st <;> cases b <;> rfl
inductive Ex where
 | normal
 | exit (id:Nat)
 | ret
def Ex.QY:Ex->Exit
 | .normal=>.normal
 | .exit id=>.exit id
 | .ret=>.ret
inductive Blk where
 | none
 | any
 | var (cs:V)
 | arr (es n:Nat) (get:Nat->V)
 | Ze (kd:MK) (st:Bool) (f:Value->Bool×V) (ks:Ks)
 | iter (mb:Option Nat) (since:Nat) (seen:List Nat) (last:Nat)
 | rng (f:FuncId) (ps:List Nat) (asg bd:Code) (row:Nat->V) (N:Nat) (st:Nat) (pend:Option Ex)
structure Base where
 t:Nat->V
 h:Nat->Blk
structure St (B:Base) where
 t:PT V
 h:PT Blk
 n:Nat
 N:Nat
def look {α:Type} (d:Nat->α) (t:PT α) (i:Nat):α:=
 match t.get i with
 | some v=>v
 | none=>d i
theorem ZR {α:Type} (d:Nat->α) (t:PT α) (i:Nat) (x:α) (j:Nat):look d (t.set i x) j = if j = i then x else look d t j:=by
 unfold look
 rw [PT.get_set]
 by_cases h:j = i <;> simp [h]
theorem Vo {α:Type} (d:Nat->α) (t:PT α) {i j:Nat} (x:α) (h:j ≠ i):look d (t.set i x) j = look d t j:=by rw [ZR,if_neg h]
theorem KF {α:Type} (d:Nat->α) (t:PT α) (i:Nat) (x:α):look d (t.set i x) i = x:=by rw [ZR,if_pos rfl]
section
variable {B:Base}
abbrev St.tmp (s:St B) (i:Nat):V:=look B.t s.t i
abbrev St.blk (s:St B) (b:Nat):Blk:=look B.h s.h b
def St.put (s:St B) (dst:Option Tmp) (v:V):St B:=
 match dst with
 | some d=>{ s with t:=s.t.set d v }
 | none=>s
def St.bs (s:St B):Base:=⟨s.tmp,s.blk⟩
def St.sub (s:St B):St s.bs:=⟨.nil,.nil,s.n,s.N⟩
end
inductive Tree (α:Type):Type 1 where
 | leaf (a:α)
 | stuck
 | node (b:Bool) (t f:Tree α)
 | need (p:Prop) (t:Tree α)
 | all (σ:Type) (t:σ->Tree α)
 | given (p:Prop) (t:Tree α)
 | both (t f:Tree α)
def Tree.bind {α β:Type}:Tree α->(α->Tree β)->Tree β
 | .leaf a,k=>k a
 | .stuck,_=>.stuck
 | .node b t f,k=>.node b (t.bind k) (f.bind k)
 | .need p t,k=>.need p (t.bind k)
 | .all σ t,k=>.all σ fun x=>(t x).bind k
 | .given p t,k=>.given p (t.bind k)
 | .both t f,k=>.both (t.bind k) (f.bind k)
def Tree.flat {α:Type}:Tree α->Bool
 | .leaf _=>true
 | .stuck=>true
 | .node _ t f=>t.flat&&f.flat
 | .need _ t=>t.flat
 | .all ..=>false
 | .given ..=>false
 | .both ..=>false
section
variable (F:Nat->Prop) (w:World)
mutual
def R:V->Nat->(Nat->Option Nat)->Value->Prop
 | .junk,_,_,_=>True
 | .undef,_,_,x=>x = Go.undef
 | .nil,_,_,_=>False
 | .cons _ _,_,_,_=>False
 | .int _ k n,_,_,x=>x = .int k n
 | .bool _ b,_,_,x=>x = .bool b
 | .str _ s,_,_,x=>x = .string ⟨s.toArray⟩
 | .agg cs,n,m,x=>∃ xs,x = .agg xs/\RL cs n m xs.toList
 | .tup vs,n,m,x=>∃ xs,x = .tuple xs/\RL vs n m xs.toList
 | .ptr _ b es i o,n,m,x=>b < n/\∃ B,x = .pointer (some ⟨B,i * es + o,none⟩)/\m b = some B
 | .rptr _ es n' get i o,_,_,x=>i < n'/\∃ B off,x = .pointer (some ⟨B,off + i * es + o,none⟩)/\F B/\∃ c el fr,w.heap[B]? = some (.cells c el fr) /\
   ∀ j,j < n'->∃ xs,RL (get j) 0 (fun _=>none) xs/\xs.length = es/\∀ q,q < es->c[off + j * es + q]? = xs[q]?
 | .nilptr,_,_,x=>x = .pointer none
 | .rsl _ es n' get,_,_,x=>∃ a cap,x = .slice a n' cap/\n'<=cap/\(n' = 0\/∃ B off,a = some ⟨B,off,none⟩/\F B/\∃ c el fr,w.heap[B]? = some (.cells c el fr) /\
   ∀ j,j < n'->∃ xs,RL (get j) 0 (fun _=>none) xs/\xs.length = es/\∀ q,q < es->c[off + j * es + q]? = xs[q]?)
 | .osl _ b es i n',n,m,x=>b < n/\∃ a cap,x = .slice a n' cap/\n'<=cap/\(cap = 0\/∃ B c el fr,a = some ⟨B,i * es,none⟩/\m b = some B/\w.heap[B]? = some (.cells c el fr)/\(i + cap) * es<=c.size)
 | .osp _ b es i n' c',n,m,x=>b < n/\∃ a cap,x = .slice a n' cap/\n'<=c'/\c'<=cap/\(cap = 0\/∃ B c el fr,a = some ⟨B,i * es,none⟩/\m b = some B/\w.heap[B]? = some (.cells c el fr)/\(i + cap) * es<=c.size)
 | .Zz,_,_,x=>x = .slice none 0 0
 | .fn f first cap,n,m,x=>∃ xs ys,x = .func f xs ys/\RL first n m xs.toList/\RL cap n m ys.toList
 | .nilfn,_,_,x=>x = .nilFunc
 | .nilmap,_,_,x=>x = .map none
 | .nilif,_,_,x=>x = .nilIface
 | .yld b,n,m,x=>b < n/\∃ l,x = .func (.yield l) #[] #[]/\m b = some l
 | .mp b,n,m,x=>b < n/\∃ B,x = .map (some B)/\m b = some B
 | .esl nn _,_,_,x=>∃ a,x = .slice a 0 0/\(nn = true->a ≠ none)
 | .rmp _ kd has get,_,_,x=>∃ B,x = .map (some B)/\F B/\∃ (es:Array MapEntry) (clock:Nat),w.heap[B]? = some (.map es clock)/\Entries kd es.toList /\
   ∀ k,kd.is k = true->has k = (YV k es.toList).isSome/\∀ v,YV k es.toList = some v->R (get k) 0 (fun _=>none) v
 | .ifc _ b,_,_,x=>(b = true/\x = .nilIface)\/(b = false/\∃ t v,x = .iface t v)
def RL:V->Nat->(Nat->Option Nat)->List Value->Prop
 | .nil,_,_,xs=>xs = []
 | .cons h t,n,m,xs=>∃ x r,xs = x :: r/\R h n m x/\RL t n m r
 | _,_,_,_=>False
end
end
end Go.Fw
namespace Go.Fw
def Ug (k:IntKind):List Int->V
 | []=>.nil
 | n :: l=>.cons (.int true k n) (Ug k l)
def tab0:List Int:=[0,1,28,2,29,14,24,3,30,22,20,15,25,17,4,8,31,27,13,23,21,19,16,7,26,12,18,6,11,5,10,9]
def glob:Nat->Option V
 | 0=>some (.rptr true 32 1 (fun _=>Ug .u8 tab0) 0 0)
 | _=>none
end Go.Fw
namespace Go.Fw
section
variable {F F':Nat->Prop} {w w':World}
def Z4 (w w':World):Prop:=∀ (B:Nat) (c:Array Value) (el:TypeId) (fr:Nat×Nat),w.heap[B]? = some (Obj.cells c el fr)->∃ (c':Array Value) (fr':Nat×Nat),w'.heap[B]? = some (Obj.cells c' el fr')/\c'.size = c.size
theorem Z4.refl (w:World):Z4 w w:=fun _ c _ fr h=>⟨c,fr,h,rfl⟩
theorem Z4.trans {w w1 w2:World} (h:Z4 w w1) (h':Z4 w1 w2):Z4 w w2:=fun B c el fr hB=>by
 obtain ⟨c1,fr1,h1,e1⟩:=h B c el fr hB
 obtain ⟨c2,fr2,h2,e2⟩:=h' B c1 el fr1 h1
 exact ⟨c2,fr2,h2,e2.trans e1⟩
theorem Z4.Jo {w w':World} (h:∀ B,B < w.heap.size->w'.heap[B]? = w.heap[B]?):Z4 w w':=fun B c el fr hB=>by
 rcases Nat.lt_or_ge B w.heap.size with h' | h'
 ·exact ⟨c,fr,by rw [h B h']; exact hB,rfl⟩
 ·rw [Array.getElem?_eq_none h'] at hB; cases hB
theorem YK (hs:Z4 w w') (hF:∀ B,F B->F' B) (hw:∀ B,F B->w'.heap[B]? = w.heap[B]?):∀ (v:V) (n n':Nat) (m m':Nat->Option Nat),
  n<=n'->(∀ b,b < n->∀ B,m b = some B->m' b = some B) ->
  (∀ x,R F w v n m x->R F' w' v n' m' x)/\(∀ xs,RL F w v n m xs->RL F' w' v n' m' xs):=by
 intro v
 induction v with
 | cons h t ih1 ih2=>
  intro n n' m m' hn hm
  refine ⟨fun x h=>by simp only [R] at h,fun xs h=>?_⟩
  simp only [RL] at h ⊢
  obtain ⟨x,r,rfl,h1,h2⟩:=h
  exact ⟨x,r,rfl,(ih1 n n' m m' hn hm).1 _ h1,(ih2 n n' m m' hn hm).2 _ h2⟩
 | agg cs ih=>
  intro n n' m m' hn hm
  refine ⟨fun x h=>?_,fun xs h=>by simp only [RL] at h⟩
  simp only [R] at h ⊢
  obtain ⟨xs,rfl,h1⟩:=h
  exact ⟨xs,rfl,(ih n n' m m' hn hm).2 _ h1⟩
 | tup cs ih=>
  intro n n' m m' hn hm
  refine ⟨fun x h=>?_,fun xs h=>by simp only [RL] at h⟩
  simp only [R] at h ⊢
  obtain ⟨xs,rfl,h1⟩:=h
  exact ⟨xs,rfl,(ih n n' m m' hn hm).2 _ h1⟩
 | fn f a b ih1 ih2=>
  intro n n' m m' hn hm
  refine ⟨fun x h=>?_,fun xs h=>by simp only [RL] at h⟩
  simp only [R] at h ⊢
  obtain ⟨xs,ys,rfl,h1,h2⟩:=h
  exact ⟨xs,ys,rfl,(ih1 n n' m m' hn hm).2 _ h1,(ih2 n n' m m' hn hm).2 _ h2⟩
 | ptr st b es i o=>
  intro n n' m m' hn hm
  refine ⟨fun x h=>?_,fun xs h=>by simp only [RL] at h⟩
  simp only [R] at h ⊢
  obtain ⟨hb,B,hx,h⟩:=h
  exact ⟨Nat.lt_of_lt_of_le hb hn,B,hx,hm b hb B h⟩
 | osl st b es i k=>
  intro n n' m m' hn hm
  refine ⟨fun x h=>?_,fun xs h=>by simp only [RL] at h⟩
  simp only [R] at h ⊢
  obtain ⟨hb,a,cap,hx,hk,h⟩:=h
  exact ⟨Nat.lt_of_lt_of_le hb hn,a,cap,hx,hk,h.imp id fun ⟨B,c,el,fr,ha,h,hc,hz⟩=>by
   obtain ⟨c',fr',hc',e⟩:=hs B c el fr hc
   exact ⟨B,c',el,fr',ha,hm b hb B h,hc',by rw [e]; exact hz⟩⟩
 | osp st b es i k c0=>
  intro n n' m m' hn hm
  refine ⟨fun x h=>?_,fun xs h=>by simp only [RL] at h⟩
  simp only [R] at h ⊢
  obtain ⟨hb,a,cap,hx,hk,hk2,h⟩:=h
  exact ⟨Nat.lt_of_lt_of_le hb hn,a,cap,hx,hk,hk2,h.imp id fun ⟨B,c,el,fr,ha,h,hc,hz⟩=>by
   obtain ⟨c',fr',hc',e⟩:=hs B c el fr hc
   exact ⟨B,c',el,fr',ha,hm b hb B h,hc',by rw [e]; exact hz⟩⟩
 | rptr st es k get i o ih=>
  intro n n' m m' hn hm
  refine ⟨fun x h=>?_,fun xs h=>by simp only [RL] at h⟩
  simp only [R] at h ⊢
  obtain ⟨hi,B,off,rfl,hB,c,el,fr,hc,hr⟩:=h
  refine ⟨hi,B,off,rfl,hF B hB,c,el,fr,by rw [hw B hB]; exact hc,fun j hj=>?_⟩
  obtain ⟨xs,h1,h2,h3⟩:=hr j hj
  exact ⟨xs,(ih j 0 0 _ _ (Nat.le_refl _) (fun b hb=>absurd hb (Nat.not_lt_zero _))).2 _ h1,h2,h3⟩
 | rsl st es k get ih=>
  intro n n' m m' hn hm
  refine ⟨fun x h=>?_,fun xs h=>by simp only [RL] at h⟩
  simp only [R] at h ⊢
  obtain ⟨a,cap,rfl,hk,h⟩:=h
  refine ⟨a,cap,rfl,hk,?_⟩
  rcases h with h | ⟨B,off,rfl,hB,c,el,fr,hc,hr⟩
  ·exact .inl h
  ·refine .inr ⟨B,off,rfl,hF B hB,c,el,fr,by rw [hw B hB]; exact hc,fun j hj=>?_⟩
   obtain ⟨xs,h1,h2,h3⟩:=hr j hj
   exact ⟨xs,(ih j 0 0 _ _ (Nat.le_refl _) (fun b hb=>absurd hb (Nat.not_lt_zero _))).2 _ h1,h2,h3⟩
 | rmp st kd has get ih=>
  intro n n' m m' hn hm
  refine ⟨fun x h=>?_,fun xs h=>by simp only [RL] at h⟩
  simp only [R] at h ⊢
  obtain ⟨B,rfl,hB,es,cl,hc,he,hr⟩:=h
  exact ⟨B,rfl,hF B hB,es,cl,by rw [hw B hB]; exact hc,he,fun k hk=>⟨(hr k hk).1,fun v hv=>(ih k 0 0 _ _ (Nat.le_refl _) (fun b hb=>absurd hb (Nat.not_lt_zero _))).1 _ ((hr k hk).2 v hv)⟩⟩
 | yld b=>
  intro n n' m m' hn hm
  refine ⟨fun x h=>?_,fun xs h=>by simp only [RL] at h⟩
  simp only [R] at h ⊢
  obtain ⟨hb,l,hx,h⟩:=h
  exact ⟨Nat.lt_of_lt_of_le hb hn,l,hx,hm b hb l h⟩
 | mp b=>
  intro n n' m m' hn hm
  refine ⟨fun x h=>?_,fun xs h=>by simp only [RL] at h⟩
  simp only [R] at h ⊢
  obtain ⟨hb,l,hx,h⟩:=h
  exact ⟨Nat.lt_of_lt_of_le hb hn,l,hx,hm b hb l h⟩
 | nil=>intro n n' m m' _ _; exact ⟨fun x h=>by simp only [R] at h,fun xs h=>by simp only [RL] at h ⊢; exact h⟩
 | junk=>intro n n' m m' _ _; exact ⟨fun x h=>by simp only [R],fun xs h=>by simp only [RL] at h⟩
 | _=>intro n n' m m' _ _; exact ⟨fun x h=>by simp only [R] at h ⊢; exact h,fun xs h=>by simp only [RL] at h⟩
theorem WU:∀ (v:V),v.clean = true->∀ (n n':Nat) (m m':Nat->Option Nat),
  (∀ x,R F w v n m x->R F w v n' m' x)/\(∀ xs,RL F w v n m xs->RL F w v n' m' xs):=by
 intro v
 induction v with
 | cons h t ih1 ih2=>
  intro hc n n' m m'
  simp only [V.clean,Bool.and_eq_true] at hc
  refine ⟨fun x h=>by simp only [R] at h,fun xs h=>?_⟩
  simp only [RL] at h ⊢
  obtain ⟨x,r,rfl,h1,h2⟩:=h
  exact ⟨x,r,rfl,(ih1 hc.1 n n' m m').1 _ h1,(ih2 hc.2 n n' m m').2 _ h2⟩
 | agg cs ih=>
  intro hc n n' m m'
  refine ⟨fun x h=>?_,fun xs h=>by simp only [RL] at h⟩
  simp only [R] at h ⊢
  obtain ⟨xs,rfl,h1⟩:=h
  exact ⟨xs,rfl,(ih hc n n' m m').2 _ h1⟩
 | tup cs ih=>
  intro hc n n' m m'
  refine ⟨fun x h=>?_,fun xs h=>by simp only [RL] at h⟩
  simp only [R] at h ⊢
  obtain ⟨xs,rfl,h1⟩:=h
  exact ⟨xs,rfl,(ih hc n n' m m').2 _ h1⟩
 | fn f a b ih1 ih2=>
  intro hc n n' m m'
  simp only [V.clean,Bool.and_eq_true] at hc
  refine ⟨fun x h=>?_,fun xs h=>by simp only [RL] at h⟩
  simp only [R] at h ⊢
  obtain ⟨xs,ys,rfl,h1,h2⟩:=h
  exact ⟨xs,ys,rfl,(ih1 hc.1 n n' m m').2 _ h1,(ih2 hc.2 n n' m m').2 _ h2⟩
 | ptr st b es i o=>intro hc; cases hc
 | osl st b es i k=>intro hc; cases hc
 | osp st b es i k c=>intro hc; cases hc
 | yld b=>intro hc; cases hc
 | mp b=>intro hc; cases hc
 | nil=>intro _ n n' m m'; exact ⟨fun x h=>by simp only [R] at h,fun xs h=>by simp only [RL] at h ⊢; exact h⟩
 | junk=>intro _ n n' m m'; exact ⟨fun x h=>by simp only [R],fun xs h=>by simp only [RL] at h⟩
 | _=>intro _ n n' m m'; exact ⟨fun x h=>by simp only [R] at h ⊢; exact h,fun xs h=>by simp only [RL] at h⟩
end
theorem Jv {xs:Array Value} {ys zs:List Value} (h:xs.toList = ys ++ zs) {q:Nat} (hq:q < ys.length):xs[q]? = ys[q]?:=by
 rw [<- Array.getElem?_toList,h,List.getElem?_append_left hq]
theorem KY {xs:Array Value} {ys zs:List Value} (h:xs.toList = ys ++ zs):ys.length<=xs.size:=by
 have:=congrArg List.length h
 simp at this
 omega
def stOf:Nat->LoopState
 | 0=>.ready
 | 1=>.busy
 | _=>.done
def codeOf:Option Ex->Option Code
 | some .ret=>some .ret
 | some (.exit i)=>some (.exit i)
 | _=>none
def RB (F:Nat->Prop) (w:World) (n:Nat) (m:Nat->Option Nat):Blk->Option Nat->Prop
 | .none,B=>B = none
 | .any,_=>True
 | .var cs,B=>∃ b xs el ys zs,B = some b/\w.heap[b]? = some (.cells xs el (0,0))/\xs.toList = ys ++ zs/\RL F w cs n m ys
 | .arr es k get,B=>(k = 0/\B = none)\/∃ b c el,B = some b/\w.heap[b]? = some (.cells c el (0,0))/\k * es<=c.size /\
   ∀ j,j < k->∃ xs,RL F w (get j) 0 (fun _=>none) xs/\xs.length = es/\∀ q,q < es->c[j * es + q]? = xs[q]?
 | .iter mb since seen last,B=>∃ (r:Nat) (x:Option Nat),B = some r/\w.heap[r]? = some (.mapIter x since seen.toArray last)/\match mb with
   | none=>x = none
   | some b=>∃ y,b < n/\x = some y/\m b = some y
 | .Ze kd _ f ks,B=>∃ (b:Nat) (es:Array MapEntry) (clock:Nat),B = some b/\w.heap[b]? = some (.map es clock)/\J2 kd ks es clock /\
   ∀ k,kd.is k = true->(f k).1 = (YV k es.toList).isSome/\∀ v,YV k es.toList = some v->R F w (f k).2 n m v
 | .rng _ ps asg bd row N st pend,B=>∃ l r,B = some l/\w.heap[l]? = some (.loop r)/\r.params.toList = ps/\r.assign = asg/\r.body = bd/\r.state = stOf st/\r.pending = codeOf pend/\N = r.tmps.size/\∀ i,R F w (row i) n m (r.tmps.getD i Go.undef)
def exactAt (F:Nat->Prop) (w:World) (g:Nat):V->Prop
 | .rptr _ es n _ _ _=>F g/\∃ c el fr,w.heap[g]? = some (.cells c el fr)/\c.size = n * es
 | _=>True
def GOk (F:Nat->Prop) (w:World):Prop:=∀ g v,glob g = some v->v.clean = true/\R F w v 0 (fun _=>none) (.pointer (some ⟨g,0,none⟩))/\exactAt F w g v
theorem GOk.mono {F F':Nat->Prop} {w w':World} (h:GOk F w) (hs:Z4 w w') (hF:∀ B,F B->F' B) (hw:∀ B,F B->w'.heap[B]? = w.heap[B]?):GOk F' w':=fun g v hg=>
 ⟨(h g v hg).1,(YK hs hF hw v 0 0 _ _ (Nat.le_refl _) (fun _ _ _ h=>h)).1 _ (h g v hg).2.1,by
  have h3:=(h g v hg).2.2
  cases v <;> try (exact trivial)
  obtain ⟨h1,c,el,fr,h2,h4⟩:=h3
  exact ⟨hF _ h1,c,el,fr,by rw [hw _ h1]; exact h2,h4⟩⟩
structure HR (base:Nat) (m:Nat->Option Nat) (F:Nat->Prop) (h:Nat->Blk) (n:Nat) (w:World):Prop where
 low:base<=w.heap.size
 fdom:∀ B,F B->B < w.heap.size
 blk:∀ b,b < n->RB F w n m (h b) (m b)
 dom:∀ b B,m b = some B->B < w.heap.size
 new:∀ b,n<=b->m b = none
 gl:GOk F w
 own:∀ b B,m b = some B->base<=B/\¬ F B
 inj:∀ b b' B,m b = some B->m b' = some B->b ≠ b'->h b = .any\/h b' = .any
structure Marks (lo:Nat) (m:Nat->Option Nat) (F:Nat->Prop) (w:World) (ds:List Deferred) (rs:List Nat):Prop where
 eq:ds = rs.map fun r=>{ target:=.collected r,args:=#[] }
 nodup:rs.Nodup
 le:lo<=w.heap.size
 lo:∀ r ∈ rs,lo<=r
 obj:∀ r ∈ rs,w.heap[r]? = some (.deferred (some []))
 un:∀ r ∈ rs,¬ F r/\∀ b,m b ≠ some r
structure Rel {B:Base} (lo base:Nat) (m:Nat->Option Nat) (F:Nat->Prop) (s:St B) (a:Act) (w:World):Prop where
 hr:HR base m F s.blk s.n w
 defers:∃ rs,Marks lo m F w a.defers rs
 size:a.tmps.size = s.N
 tmp:∀ i,R F w (s.tmp i) s.n m (a.tmps.getD i Go.undef)
structure Calm (w w':World):Prop where
 os:w'.os = w.os
 tape:w'.tape = w.tape
 output:w'.output = w.output
theorem Calm.refl (w:World):Calm w w:=⟨rfl,rfl,rfl⟩
theorem Calm.trans {w w1 w2:World} (h:Calm w w1) (h':Calm w1 w2):Calm w w2:=⟨h'.os.trans h.os,h'.tape.trans h.tape,h'.output.trans h.output⟩
structure Own (m:Nat->Option Nat) (w:World) (m':Nat->Option Nat) (w':World):Prop where
 un:∀ B,B < w.heap.size->(∀ b,m b ≠ some B)->w'.heap[B]? = w.heap[B]?
 old:∀ b B,m' b = some B->B < w.heap.size->∃ c,m c = some B
theorem Own.Jo {m:Nat->Option Nat} {w w':World} (h:∀ B,B < w.heap.size->w'.heap[B]? = w.heap[B]?):Own m w m w':=⟨fun B hB _=>h B hB,fun b _ hb _=>⟨b,hb⟩⟩
theorem Own.refl (m:Nat->Option Nat) (w:World):Own m w m w:=Own.Jo fun _ _=>rfl
theorem Own.trans {m m1 m2:Nat->Option Nat} {w w1 w2:World} (h:Own m w m1 w1) (h':Own m1 w1 m2 w2) (hs:w.heap.size<=w1.heap.size):Own m w m2 w2 where
 un B hB hn:=by
  rw [h'.un B (Nat.lt_of_lt_of_le hB hs) fun b hb=>?_,h.un B hB hn]
  obtain ⟨c,hc⟩:=h.old b B hb hB
  exact hn c hc
 old b B hb hB:=by
  obtain ⟨c,hc⟩:=h'.old b B hb (Nat.lt_of_lt_of_le hB hs)
  exact h.old c B hc hB
theorem Own.sub {m m1 m2:Nat->Option Nat} {w w':World} (h:Own m w m1 w') (hs:∀ b B,m2 b = some B->∃ c,m1 c = some B):Own m w m2 w':=
 ⟨h.un,fun b B hb hB=>let ⟨c,hc⟩:=hs b B hb; h.old c B hc hB⟩
structure Ext (base:Nat) (m:Nat->Option Nat) (F:Nat->Prop) (n:Nat) (w:World) (m':Nat->Option Nat) (F':Nat->Prop) (n':Nat) (w':World):Prop where
 f:∀ B,F B->F' B
 back:∀ B,F' B->F B\/w.heap.size<=B
 keep:∀ B,B < base\/F B->w'.heap[B]? = w.heap[B]?
 size:w.heap.size<=w'.heap.size
 sz:Z4 w w'
 ow:Own m w m' w'
 le:n<=n'
 map:∀ b,b < n->∀ B,m b = some B->m' b = some B
 calm:Calm w w'
theorem Ext.refl (base:Nat) (m:Nat->Option Nat) (F:Nat->Prop) (n:Nat) (w:World):Ext base m F n w m F n w:=
 ⟨fun _ h=>h,fun _ h=>.inl h,fun _ _=>rfl,Nat.le_refl _,Z4.refl w,Own.refl m w,Nat.le_refl _,fun _ _ _ h=>h,Calm.refl w⟩
theorem Ext.trans {base:Nat} {m m1 m2:Nat->Option Nat} {F F1 F2:Nat->Prop} {n n1 n2:Nat} {w w1 w2:World}
  (h:Ext base m F n w m1 F1 n1 w1) (h':Ext base m1 F1 n1 w1 m2 F2 n2 w2):Ext base m F n w m2 F2 n2 w2 where
 f B hB:=h'.f B (h.f B hB)
 back B hB:=(h'.back B hB).elim (fun hB=>h.back B hB) (fun hB=>.inr (Nat.le_trans h.size hB))
 keep B hB:=by rw [h'.keep B (hB.imp id (h.f B)),h.keep B hB]
 size:=Nat.le_trans h.size h'.size
 sz:=h.sz.trans h'.sz
 ow:=h.ow.trans h'.ow h.size
 le:=Nat.le_trans h.le h'.le
 map b hb B hB:=h'.map b (Nat.lt_of_lt_of_le hb h.le) B (h.map b hb B hB)
 calm:=h.calm.trans h'.calm
theorem Marks.ext {lo base:Nat} {m m':Nat->Option Nat} {F F':Nat->Prop} {n n':Nat} {w w':World} {ds:List Deferred} (h:∃ rs,Marks lo m F w ds rs) (he:Ext base m F n w m' F' n' w'):∃ rs,Marks lo m' F' w' ds rs:=by
 obtain ⟨rs,hm⟩:=h
 have hlt:∀ r ∈ rs,r < w.heap.size:=fun r hr=>by
  have:=hm.obj r hr
  rcases Nat.lt_or_ge r w.heap.size with h' | h'
  ·exact h'
  ·rw [Array.getElem?_eq_none h'] at this; cases this
 refine ⟨rs,hm.eq,hm.nodup,Nat.le_trans hm.le he.size,hm.lo,fun r hr=>?_,fun r hr=>⟨fun hF=>?_,fun b hb=>?_⟩⟩
 ·rw [he.ow.un r (hlt r hr) (hm.un r hr).2]; exact hm.obj r hr
 ·rcases he.back r hF with h1 | h1
  ·exact (hm.un r hr).1 h1
  ·exact absurd (hlt r hr) (Nat.not_lt.2 h1)
 ·obtain ⟨c,hc⟩:=he.ow.old b r hb (hlt r hr)
  exact (hm.un r hr).2 c hc
theorem Marks.sub {lo:Nat} {m m':Nat->Option Nat} {F:Nat->Prop} {w:World} {ds:List Deferred} (h:∃ rs,Marks lo m F w ds rs) (hs:∀ b B,m' b = some B->∃ c,m c = some B):∃ rs,Marks lo m' F w ds rs:=by
 obtain ⟨rs,hm⟩:=h
 exact ⟨rs,hm.eq,hm.nodup,hm.le,hm.lo,hm.obj,fun r hr=>⟨(hm.un r hr).1,fun b hb=>let ⟨c,hc⟩:=hs b r hb; (hm.un r hr).2 c hc⟩⟩
theorem Ext.val {base:Nat} {m m':Nat->Option Nat} {F F':Nat->Prop} {n n':Nat} {w w':World} (h:Ext base m F n w m' F' n' w') {v:V} {x:Value}
  (hv:R F w v n m x):R F' w' v n' m' x:=
 (YK h.sz h.f (fun B hB=>h.keep B (.inr hB)) v n n' m m' h.le h.map).1 x hv
theorem Ext.row {base:Nat} {m m':Nat->Option Nat} {F F':Nat->Prop} {n n':Nat} {w w':World} (h:Ext base m F n w m' F' n' w') {v:V} {xs:List Value}
  (hv:RL F w v n m xs):RL F' w' v n' m' xs:=
 (YK h.sz h.f (fun B hB=>h.keep B (.inr hB)) v n n' m m' h.le h.map).2 xs hv
abbrev fen (ro:Option Nat):Fence:={ fn:=fun _=>True,depth:=none,alive:=false,round:=ro }
theorem Zh4 (ro:Option Nat) (n:Nat):(fen ro).room n:=fun d hd=>by cases hd
theorem Zct (ro:Option Nat):(fen ro).depth.isSome = true->1<=0:=fun h=>(by cases h)
theorem Zit (P:Program) (ro:Option Nat) (m:Machine):m.fenced P (fen ro):=fenced_wide P m
theorem Zio {P:Program} {ro:Option Nat} {n:Nat} {f:FuncId} {args:Array Value} {w:World} {K:Ending->World->Prop} (h:Calls P f args w K):CallsIn (fen ro) n P f args w K:=(callsIn_wide (n:=n)).2 h
theorem XH {P:Program} {ro:Option Nat} {o:Oper} {a:Act} {w:World} {K:Act->World->Prop} {Q:Exit->Act->World->Prop} (h:o.wp P a w K Q) (hd:∀ c,o.op ≠ .defer c):o.wpIn (fen ro) 0 P a w K Q:=by
 refine ⟨fun _ _=>trivial,?_⟩
 rw [Oper.semAt_eq _ _ _ hd]
 unfold Oper.wp at h
 generalize (execOp a.eval o).run P w = r at h ⊢
 cases r with
 | ok x w'=>
  cases x <;> first
   | exact h
   | exact h.elim
   | exact ⟨Zct ro,Zio h⟩
   | exact ⟨Zct ro,fun c cs _=>let ⟨v,w'',q,r⟩:=h c cs; ⟨v,w'',q,stepsIn_wide.2 r⟩⟩
 | halt x w'=>cases x <;> first | exact h | exact h.elim
def Jb (P:Program) (ro:Option Nat) (b:Code) (Q:Exit->Act->World->Prop) (a:Act) (w:World):Prop:=
 ∀ (fr:Frame) (k:List Item) (cs:List Frame),fr.roundOf = ro->∃ e a' w',Q e a' w'/\ArrivesIn (Machine.fenced P (fen ro)) P (lone (fr.atR a (.code b :: .inLoop b :: k)) cs w) fr k cs e a' w'
theorem Jb.wp {P:Program} {ro:Option Nat} {b:Code} {Q:Exit->Act->World->Prop} {a:Act} {w:World} (h:Jb P ro b Q a w):(Code.loop b).wpIn (fen ro) 0 P Q a w:=
 fun fr k cs hro _ _=>let ⟨e,a',w',q,r⟩:=h fr k cs hro; ⟨e,a',w',q,.of_steps (.one (Zit P ro _) stepR_loop) r⟩
theorem Jb.round {P:Program} {ro:Option Nat} {b:Code} {Q:Exit->Act->World->Prop} {a:Act} {w:World} (h:b.wpIn (fen ro) 0 P (Exit.then (Jb P ro b Q) Q) a w):Jb P ro b Q a w:=by
 intro fr k cs hro
 obtain ⟨e,a1,w1,h1,h2⟩:=h fr (.inLoop b :: k) cs hro trivial (Zh4 ro _)
 cases e with
 | normal=>
  obtain ⟨e2,a2,w2,h3,h4⟩:=h1 fr k cs hro
  exact ⟨e2,a2,w2,h3,.of_steps (StepsIn.trans h2 (.one (Zit P ro _) stepR_inLoop)) h4⟩
 | exit id=>exact ⟨_,a1,w1,h1,.pass (x:=.inLoop b) rfl (fun _ _=>.inl (by simp)) h2⟩
 | goto l=>exact ⟨_,a1,w1,h1,.pass (x:=.inLoop b) rfl (fun _ _=>.inl (by simp)) h2⟩
 | ret=>exact ⟨_,a1,w1,h1,.pass (x:=.inLoop b) rfl (fun _ _=>.inl (by simp)) h2⟩
 | panic ch=>exact ⟨_,a1,w1,h1,.pass (x:=.inLoop b) rfl (fun _ _=>.inl (by simp)) h2⟩
 | outgrown=>exact ⟨_,a1,w1,h1,.pass (x:=.inLoop b) rfl (fun _ _=>.inl (by simp)) h2⟩
def Xa:Code->Bool
 | .rangeFunc ..=>false
 | .seq a b=>Xa a&&Xa b
 | .cond _ a b=>Xa a&&Xa b
 | .block _ b=>Xa b
 | .loop b=>Xa b
 | .scope b=>Xa b
 | _=>true
def VH (P:Program) (body:Code) {Bs:Base} (s:St Bs) (Φ:Ex×St Bs->Prop):Prop:=
 ∀ (ro:Option Nat) (lo base:Nat) (m:Nat->Option Nat) (F:Nat->Prop) (a:Act) (w:World) (Q:Exit->Act->World->Prop),(ro = none\/Xa body = true)->Rel lo base m F s a w ->
  (∀ e s',Φ (e,s')->∀ m' F' a' w',Ext base m F s.n w m' F' s'.n w'->Rel lo base m' F' s' a' w'->Q e.QY a' w')->Jb P ro body Q a w
def Tree.holds {α:Type} (P:Program):Tree α->(α->Prop)->Prop
 | .leaf a,Q=>Q a
 | .stuck,_=>False
 | .node b t f,Q=>(b = true->t.holds P Q)/\(b = false->f.holds P Q)
 | .need p t,Q=>p/\t.holds P Q
 | .all σ t,Q=>∀ x:σ,(t x).holds P Q
 | .given p t,Q=>p->t.holds P Q
 | .both t f,Q=>t.holds P Q/\f.holds P Q
theorem Tree.Ya {α β:Type} {P:Program} {k:α->Tree β} {Q:β->Prop}:∀ (T:Tree α),(T.bind k).holds P Q↔T.holds P fun a=>(k a).holds P Q:=by
 intro T
 induction T with
 | leaf a=>exact Iff.rfl
 | stuck=>exact Iff.rfl
 | node b t f iht ihf=>simp only [Tree.bind,Tree.holds,iht,ihf]
 | need p t ih=>simp only [Tree.bind,Tree.holds,ih]
 | all σ t ih=>simp only [Tree.bind,Tree.holds,ih]
 | given p t ih=>simp only [Tree.bind,Tree.holds,ih]
 | both t f iht ihf=>simp only [Tree.bind,Tree.holds,iht,ihf]
theorem Tree.Xh {α:Type} {P:Program}:∀ (T:Tree α) {Q Q':α->Prop},(∀ a,Q a->Q' a)->T.holds P Q->T.holds P Q':=by
 intro T
 induction T with
 | leaf a=>exact fun h hq=>h _ hq
 | stuck=>exact fun _ h=>h
 | node b t f iht ihf=>exact fun h hq=>⟨fun hb=>iht h (hq.1 hb),fun hb=>ihf h (hq.2 hb)⟩
 | need p t ih=>exact fun h hq=>⟨hq.1,ih h hq.2⟩
 | all σ t ih=>exact fun h hq x=>ih x h (hq x)
 | given p t ih=>exact fun h hq hp=>ih h (hq hp)
 | both t f iht ihf=>exact fun h hq=>⟨iht h hq.1,ihf h hq.2⟩
end Go.Fw
end
