/- Loops that are not walked: the rule with an invariant. -/
import Derived.Test.YtkkojdcchnailaaGreatDoorQGwP
namespace Go.Fw

theorem Tree.holds_view {α β : Type} {P : Program} {T : Tree α} {g : α → β} {T' : Tree β} (h : (T.bind fun x => .leaf (g x)) = T') {Q : β → Prop} (hq : T'.holds P Q) : T.holds P fun x => Q (g x) := by
  subst h
  exact (Tree.holds_bind T).1 hq
def rowOf : List V → V
  | [] => .nil
  | v :: l => .cons v (rowOf l)
def blkV : Blk → V
  | .var cs => .agg cs
  | _ => .junk
def allLt (n : Nat) : List Nat → Bool
  | [] => true
  | k :: l => Nat.blt k n && allLt n l
section
variable {B : Base}
/-- What is kept of a state at a loop's head: some temporaries, and some variables. -/
def vw (n0 N0 : Nat) (KT KH : List Nat) (x : St B) : Bool × V × V :=
  ((Nat.beq x.N N0 && Nat.ble n0 x.n) && ((rowOf (KT.map x.tmp)).belowB n0 && ((rowOf (KH.map fun b => blkV (x.blk b))).belowB n0 && allLt n0 KH)),
    rowOf (KT.map x.tmp), rowOf (KH.map fun b => blkV (x.blk b)))
def putT : List Nat → V → PT V → PT V
  | k :: ks, .cons v r, t => putT ks r (t.set k v)
  | _, _, t => t
def vBlk : V → Blk
  | .agg cs => .var cs
  | _ => .any
def putB : List Nat → V → PT Blk → PT Blk
  | k :: ks, .cons v r, t => putB ks r (t.set k (vBlk v))
  | _, _, t => t
/-- The state of which just that is known. -/
def canon (n0 N0 : Nat) (KT KH : List Nat) (ts bs : V) : St B := { t := putT KT ts (.fill .junk), h := putB KH bs (.fill .any), n := n0, N := N0 }
def Same (n0 N0 : Nat) (KT KH : List Nat) (x : St B) (ts bs : V) : Prop := (vw n0 N0 KT KH x).1 = true ∧ (vw n0 N0 KT KH x).2.1.soft = ts.soft ∧ (vw n0 N0 KT KH x).2.2.soft = bs.soft

theorem putT_rel {F : Nat → Prop} {w : World} {n : Nat} {m : Nat → Option Nat} {d : Nat → V} {g : Nat → Value} : ∀ (KT : List Nat) (ts : V) (t : PT V), (∀ j, R F w (look d t j) n m (g j)) →
    (∀ vs : List V, vs.length = KT.length → ts.soft = (rowOf vs).soft → (∀ (i k : Nat) (v : V), KT[i]? = some k → vs[i]? = some v → R F w v n m (g k)) → ∀ j, R F w (look d (putT KT ts t) j) n m (g j)) := by
  intro KT
  induction KT with
  | nil => intro ts t ht vs _ _ _; exact ht
  | cons k ks ih =>
    intro ts t ht vs hl hs hv
    cases vs with
    | nil => cases hl
    | cons v vs =>
      cases ts <;> simp only [rowOf, V.soft] at hs <;> try (cases hs; done)
      rename_i a r
      injection hs with h1 h2
      refine ih r (t.set k a) (fun j => ?_) vs (by simpa using hl) h2 fun i k' v' h3 h4 => hv (i + 1) k' v' (by simpa using h3) (by simpa using h4)
      rw [look_set]
      by_cases e : j = k
      · rw [if_pos e, e]
        have := hv 0 k v rfl rfl
        rw [← (R_soft v n m).1, ← h1, (R_soft a n m).1] at this
        exact this
      · rw [if_neg e]; exact ht j
theorem putB_rel {F : Nat → Prop} {w : World} {n : Nat} {m : Nat → Option Nat} {d : Nat → Blk} {g : Nat → Option Nat} : ∀ (KH : List Nat) (bs : V) (t : PT Blk), (∀ j, j < n → RB F w n m (look d t j) (g j)) →
    (∀ vs : List V, vs.length = KH.length → bs.soft = (rowOf vs).soft → (∀ (i k : Nat) (v : V), KH[i]? = some k → vs[i]? = some v → RB F w n m (vBlk v) (g k)) → ∀ j, j < n → RB F w n m (look d (putB KH bs t) j) (g j)) := by
  intro KH
  induction KH with
  | nil => intro bs t ht vs _ _ _; exact ht
  | cons k ks ih =>
    intro bs t ht vs hl hs hv
    cases vs with
    | nil => cases hl
    | cons v vs =>
      cases bs <;> simp only [rowOf, V.soft] at hs <;> try (cases hs; done)
      rename_i a r
      injection hs with h1 h2
      refine ih r (t.set k (vBlk a)) (fun j hj => ?_) vs (by simpa using hl) h2 fun i k' v' h3 h4 => hv (i + 1) k' v' (by simpa using h3) (by simpa using h4)
      rw [look_set]
      by_cases e : j = k
      · rw [if_pos e, e]
        have := hv 0 k v rfl rfl
        cases a <;> try (exact trivial)
        rename_i cs
        cases v <;> simp only [V.soft] at h1 <;> try (cases h1; done)
        rename_i cs'
        injection h1 with h1
        obtain ⟨b, xs, el, ys, zs, k1, k2, ksp, k3⟩ := this
        refine ⟨b, xs, el, ys, zs, k1, k2, ksp, ?_⟩
        rw [← (R_soft cs' n m).2, ← h1, (R_soft cs n m).2] at k3
        exact k3
      · rw [if_neg e]; exact ht j hj

theorem putB_any {d : Nat → Blk} {j : Nat} : ∀ (KH : List Nat) (bs : V) (t : PT Blk), look d t j = .any →
    (∀ vs : List V, vs.length = KH.length → bs.soft = (rowOf vs).soft → (∀ (i : Nat) (v : V), KH[i]? = some j → vs[i]? = some v → v = .junk) → look d (putB KH bs t) j = .any) := by
  intro KH
  induction KH with
  | nil => intro bs t ht vs _ _ _; exact ht
  | cons k ks ih =>
    intro bs t ht vs hl hs hv
    cases vs with
    | nil => cases hl
    | cons v vs =>
      cases bs <;> simp only [rowOf, V.soft] at hs <;> try (cases hs; done)
      rename_i a r
      injection hs with h1 h2
      refine ih r (t.set k (vBlk a)) ?_ vs (by simpa using hl) h2 fun i v' h3 h4 => hv (i + 1) v' (by simpa using h3) (by simpa using h4)
      rw [look_set]
      by_cases e : j = k
      · rw [if_pos e]
        have := hv 0 v (by rw [e]; rfl) rfl
        subst this
        cases a <;> simp only [V.soft] at h1 <;> first | rfl | (cases h1; done)
      · rw [if_neg e]; exact ht
theorem belowB_row {n : Nat} : ∀ (l : List V), (rowOf l).belowB n = true → ∀ v ∈ l, v.belowB n = true := by
  intro l
  induction l with
  | nil => intro _ v h; cases h
  | cons a l ih =>
    intro h v hv
    simp only [rowOf, V.belowB, Bool.and_eq_true] at h
    cases hv with
    | head => exact h.1
    | tail _ hv => exact ih h.2 v hv
theorem allLt_mem {n : Nat} : ∀ l : List Nat, allLt n l = true → ∀ k ∈ l, k < n := by
  intro l
  induction l with
  | nil => intro _ k h; cases h
  | cons a l ih =>
    intro h k hk
    simp only [allLt, Bool.and_eq_true] at h
    cases hk with
    | head => simpa [Nat.blt_eq] using h.1
    | tail _ hk => exact ih h.2 k hk
/-- Behind a round the state is one of the family again. -/
theorem canon_rel {B' : Base} {lo base : Nat} {m : Nat → Option Nat} {F : Nat → Prop} {x : St B} {a : Act} {w : World} {n0 N0 : Nat} {KT KH : List Nat} {ts bs : V} (hr : Rel lo base m F x a w) (h : Same n0 N0 KT KH x ts bs) :
    n0 ≤ x.n ∧ Rel lo base (cutM m n0) F (canon n0 N0 KT KH ts bs : St B') a w := by
  obtain ⟨h1, h2, h3⟩ := h
  simp only [vw] at h1 h2 h3
  simp only [Bool.and_eq_true] at h1
  obtain ⟨⟨hN, hn⟩, ht, hb, hall⟩ := h1
  have hn := Nat.le_of_ble_eq_true hn
  have hN := Nat.eq_of_beq_eq_true hN
  have hle : ∀ b B, cutM m n0 b = some B → b < n0 ∧ m b = some B := by
    intro b B h
    unfold cutM at h
    by_cases e : b < n0
    · rw [if_pos e] at h; exact ⟨e, h⟩
    · rw [if_neg e] at h; cases h
  have hany : ∀ b, x.blk b = .any → (canon n0 N0 KT KH ts bs : St B').blk b = .any := by
    intro b hb'
    refine putB_any KH bs (.fill .any) rfl _ (by rw [List.length_map]) h3.symm fun i v hk hv => ?_
    rw [List.getElem?_map, hk] at hv
    injection hv with hv
    rw [← hv]
    show blkV (x.blk b) = .junk
    rw [hb']
    rfl
  refine ⟨hn, ⟨hr.hr.low, hr.hr.fdom, fun b hb' => ?_, fun b B h => hr.hr.dom b B (hle b B h).2, fun b hb' => ?_, hr.hr.gl, fun b B h => hr.hr.own b B (hle b B h).2, fun b b' B h h' hne => (hr.hr.inj b b' B (hle b B h).2 (hle b' B h').2 hne).imp (hany b) (hany b')⟩, Marks.sub hr.defers (fun b B h => ⟨b, (hle b B h).2⟩), hr.size.trans hN, fun j => ?_⟩
  · refine putB_rel (g := cutM m n0) KH bs (.fill .any) (fun _ _ => trivial) _ (by rw [List.length_map]) h3.symm (fun i k v hk hv => ?_) b hb'
    rw [List.getElem?_map, hk] at hv
    injection hv with hv
    have hmem : v ∈ KH.map fun b => blkV (x.blk b) := by rw [← hv]; exact List.mem_map.2 ⟨k, List.mem_of_getElem? hk, rfl⟩
    have hbv := belowB_row _ hb v hmem
    clear hmem
    subst hv
    dsimp only at hbv ⊢
    have hk1 := allLt_mem KH hall k (List.mem_of_getElem? hk)
    have hrb := hr.hr.blk k (Nat.lt_of_lt_of_le hk1 hn)
    cases hx : x.blk k <;> rw [hx] at hbv hrb <;> try (exact trivial)
    rename_i cs
    obtain ⟨b', xs, el, ys, zs, k1, k2, ksp, k3⟩ := hrb
    refine ⟨b', xs, el, ys, zs, ?_, k2, ksp, (R_cut cs x.n hbv).2 _ k3⟩
    unfold cutM
    rw [if_pos hk1]
    exact k1
  · unfold cutM
    have hb'' : n0 ≤ b := hb'
    rw [if_neg (by omega)]
  · refine putT_rel (g := fun j => a.tmps.getD j Go.undef) KT ts (.fill .junk) (fun j => by show R F w .junk n0 _ _; simp only [R]) _ (by rw [List.length_map]) h2.symm (fun i k v hk hv => ?_) j
    rw [List.getElem?_map, hk] at hv
    injection hv with hv
    have hmem : v ∈ KT.map x.tmp := by rw [← hv]; exact List.mem_map.2 ⟨k, List.mem_of_getElem? hk, rfl⟩
    have hbv := belowB_row _ ht v hmem
    subst hv
    exact (R_cut _ x.n hbv).1 _ (hr.tmp k)
theorem cutM_some {m : Nat → Option Nat} {n : Nat} (b B : Nat) (h : cutM m n b = some B) : ∃ c, m c = some B := by
  unfold cutM at h
  by_cases e : b < n
  · rw [if_pos e] at h; exact ⟨b, h⟩
  · rw [if_neg e] at h; cases h
theorem cut_ext {base : Nat} {m m' : Nat → Option Nat} {F F' : Nat → Prop} {n n' n0 : Nat} {w w' : World} (h : Ext base m F n w m' F' n' w') (hn : n = n0) : Ext base m F n w (cutM m' n0) F' n0 w' :=
  ⟨h.f, h.back, h.keep, h.size, h.sz, h.ow.sub cutM_some, Nat.le_of_eq hn, fun b hb B hB => by unfold cutM; rw [if_pos (by omega)]; exact h.map b hb B hB, h.calm⟩

/-- THE RULE FOR A LOOP: a family of states of which just some temporaries and variables are known. -/
theorem loop_canon {E : Env} (hE : E.Ok) {k : Nat} {f : FuncId} {b : Code} (hin : ∀ b' ∈ loopsOf b, InFn E.P f b') {n0 N0 : Nat} {KT KH : List Nat} {ι : Type} (ts bs : ι → V) (Inv : ι → Prop) (μ : ι → Nat) (Φ : Ex × St B → Prop)
    (step : ∀ i, Inv i → (ev E k f b B (canon n0 N0 KT KH (ts i) (bs i))).holds E.P fun x => match x.1 with
      | .normal => ∃ i', Inv i' ∧ μ i' < μ i ∧ Same n0 N0 KT KH x.2 (ts i') (bs i')
      | e => ∃ ts' bs', Same n0 N0 KT KH x.2 ts' bs' ∧ Φ (e, canon n0 N0 KT KH ts' bs'))
    {s : St B} (hn : s.n = n0) {i0 : ι} (h0 : Inv i0) (hs : Same n0 N0 KT KH s (ts i0) (bs i0)) : SemLoop E.P b s Φ := by
  intro ro lo base m F a w Q hro hr hQ
  have main : ∀ (q : Nat) (i : ι), μ i ≤ q → Inv i → ∀ m1 F1 a1 w1, Ext base m F s.n w m1 F1 n0 w1 → Rel lo base m1 F1 (canon n0 N0 KT KH (ts i) (bs i) : St B) a1 w1 → LoopWp E.P ro b Q a1 w1 := by
    intro q
    induction q with
    | zero =>
      intro i hi hI m1 F1 a1 w1 hx hr1
      refine LoopWp.round (wpX.wp (ev_ok hE k ro f b B _ lo base m1 F1 a1 w1 _ _ (fun b' hb' _ _ => hin b' hb') hro hr1 (step i hI) fun e s' hP m2 F2 a2 w2 k1 k2 => ?_))
      have hx2 := cut_ext (n0 := n0) (hx.trans k1) hn
      cases e with
      | normal => obtain ⟨i', _, h2, _⟩ := hP; omega
      | exit id => obtain ⟨ts', bs', h1, h2⟩ := hP; exact hQ (.exit id) _ h2 _ _ _ _ hx2 (canon_rel k2 h1).2
      | ret => obtain ⟨ts', bs', h1, h2⟩ := hP; exact hQ .ret _ h2 _ _ _ _ hx2 (canon_rel k2 h1).2
    | succ q ih =>
      intro i hi hI m1 F1 a1 w1 hx hr1
      refine LoopWp.round (wpX.wp (ev_ok hE k ro f b B _ lo base m1 F1 a1 w1 _ _ (fun b' hb' _ _ => hin b' hb') hro hr1 (step i hI) fun e s' hP m2 F2 a2 w2 k1 k2 => ?_))
      have hx2 := cut_ext (n0 := n0) (hx.trans k1) hn
      cases e with
      | normal => obtain ⟨i', h1, h2, h3⟩ := hP; exact ih i' (by omega) h1 _ _ _ _ hx2 (canon_rel k2 h3).2
      | exit id => obtain ⟨ts', bs', h1, h2⟩ := hP; exact hQ (.exit id) _ h2 _ _ _ _ hx2 (canon_rel k2 h1).2
      | ret => obtain ⟨ts', bs', h1, h2⟩ := hP; exact hQ .ret _ h2 _ _ _ _ hx2 (canon_rel k2 h1).2
  refine main (μ i0) i0 (Nat.le_refl _) h0 (cutM m n0) F a w ?_ (canon_rel hr hs).2
  exact cut_ext (Ext.refl base m F s.n w) hn
end

/-- The same, by what is seen of the states behind a round. -/
theorem loop_view {B : Base} {E : Env} (hE : E.Ok) {k : Nat} {f : FuncId} {b : Code} (hin : ∀ b' ∈ loopsOf b, InFn E.P f b') {n0 N0 : Nat} {KT KH : List Nat} {ι : Type} (ts bs : ι → V) (Inv : ι → Prop) (μ : ι → Nat) (Φ : Ex × St B → Prop)
    {T : ι → Tree (Ex × Bool × V × V)} (hT : ∀ i, ((ev E k f b B (canon n0 N0 KT KH (ts i) (bs i))).bind fun x => Tree.leaf (x.1, vw n0 N0 KT KH x.2)) = T i)
    (step : ∀ i, Inv i → (T i).holds E.P fun y => match y.1 with
      | .normal => y.2.1 = true ∧ ∃ i', Inv i' ∧ μ i' < μ i ∧ y.2.2.1.soft = (ts i').soft ∧ y.2.2.2.soft = (bs i').soft
      | e => y.2.1 = true ∧ ∃ ts' bs', y.2.2.1.soft = ts'.soft ∧ y.2.2.2.soft = bs'.soft ∧ Φ (e, canon n0 N0 KT KH ts' bs'))
    {s : St B} (hn : s.n = n0) {i0 : ι} (h0 : Inv i0) (hs : Same n0 N0 KT KH s (ts i0) (bs i0)) : SemLoop E.P b s Φ := by
  refine loop_canon hE (k := k) hin ts bs Inv μ Φ (fun i hi => ?_) hn h0 hs
  refine Tree.holds_mono _ (fun x hx => ?_) (Tree.holds_view (hT i) (step i hi))
  obtain ⟨e, s'⟩ := x
  cases e with
  | normal => obtain ⟨h1, i', h2, h3, h4, h5⟩ := hx; exact ⟨i', h2, h3, h1, h4, h5⟩
  | exit id => obtain ⟨h1, ts', bs', h2, h3, h4⟩ := hx; exact ⟨ts', bs', ⟨h1, h2, h3⟩, h4⟩
  | ret => obtain ⟨h1, ts', bs', h2, h3, h4⟩ := hx; exact ⟨ts', bs', ⟨h1, h2, h3⟩, h4⟩

/-! ### Which loop it is -/
def loopAt (P : Program) (f : FuncId) (id : Nat) : Code :=
  match P.funcs[f]? with
  | some fn => match fn.body with
    | some c => match (loopsAll c).filter (fun b => match firstRegion b with | some i => Nat.beq i id | none => false) with
      | [b] => b
      | _ => .skip
    | none => .skip
  | none => .skip
def oneLoop (P : Program) (f : FuncId) (id : Nat) : Bool :=
  match P.funcs[f]? with
  | some fn => match fn.body with
    | some c => match (loopsAll c).filter (fun b => match firstRegion b with | some i => Nat.beq i id | none => false) with
      | [_] => true
      | _ => false
    | none => false
  | none => false
theorem loops_in : ∀ (c b : Code), b ∈ loopsAll c → ∀ b' ∈ loopsOf b, b' ∈ loopsAll c := by
  intro c
  induction c with
  | seq x y ihx ihy =>
    intro b hb b' hb'
    simp only [loopsAll, List.mem_append] at hb ⊢
    exact hb.imp (fun h => ihx b h b' hb') (fun h => ihy b h b' hb')
  | cond c x y ihx ihy =>
    intro b hb b' hb'
    simp only [loopsAll, List.mem_append] at hb ⊢
    exact hb.imp (fun h => ihx b h b' hb') (fun h => ihy b h b' hb')
  | block id x ih => exact ih
  | scope x ih => exact ih
  | loop x ih =>
    intro b hb b' hb'
    simp only [loopsAll, List.mem_cons] at hb ⊢
    rcases hb with rfl | hb
    · exact .inr (loops_all _ _ hb')
    · exact .inr (ih b hb b' hb')
  | rangeFunc g ps x y ihx ihy =>
    intro b hb b' hb'
    simp only [loopsAll, List.mem_append] at hb ⊢
    exact hb.imp (fun h => ihx b h b' hb') (fun h => ihy b h b' hb')
  | _ => intro b hb; simp only [loopsAll] at hb; cases hb
/-- What is to be shown of a loop of the program's. -/
theorem lp_ok {P : Program} {l : Lp} (h1 : oneLoop P l.f l.id = true) (h : (∀ b' ∈ loopsOf (loopAt P l.f l.id), InFn P l.f b') → LoopOk P (loopAt P l.f l.id) l.g) : l.Ok P := by
  intro body ⟨fn, c, hf, hc, hmem⟩ hfr
  have hb : body = loopAt P l.f l.id := by
    unfold oneLoop at h1
    unfold loopAt
    rw [hf] at h1 ⊢
    dsimp only at h1 ⊢
    rw [hc] at h1 ⊢
    dsimp only at h1 ⊢
    have hm : body ∈ (loopsAll c).filter (fun b => match firstRegion b with | some i => Nat.beq i l.id | none => false) := by
      rw [List.mem_filter]
      exact ⟨hmem, by rw [hfr]; simp⟩
    generalize (loopsAll c).filter (fun b => match firstRegion b with | some i => Nat.beq i l.id | none => false) = L at hm h1 ⊢
    match L, h1, hm with
    | [b], _, hm => exact List.mem_singleton.1 hm
  subst hb
  exact h fun b' hb' => ⟨fn, c, hf, hc, loops_in c _ hmem b' hb'⟩
/-- 'holds', closed up: the elaborator does not look behind it. -/
structure Tree.Hold {α : Type} (P : Program) (T : Tree α) (Q : α → Prop) : Prop where
  h : T.holds P Q
/-- A law's call answers true. -/
theorem meets_true {E : Env} (hE : E.Ok) (k : Nat) {g : FuncId} {args : V} (hhas : Has E.P g) (h : Tree.Hold E.P (evFn E k g args) fun r => r.soft = .bool false true) : Meets E.P g args (.bool false true) :=
  meets hE k hhas rfl (Tree.holds_mono _ (fun r hr => by rw [hr]; exact ⟨rfl, rfl⟩) h.h)
end Go.Fw
