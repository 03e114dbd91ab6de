/- Loops in whose rounds a range over a function is asked for its next round: the rule with an invariant. -/
import Derived.Test.YtnjjailadijdlaaGreatDoorGwT
namespace Go.Fw

/-- What is known of a range over a function, besides the frame it began in. -/
structure RV where
  f : FuncId
  ps : List Nat
  asg : Code
  bd : Code
  N : Nat
  st : Nat
  pend : Option Ex
def rngV (KR : List Nat) : Blk → Option RV × V
  | .rng f ps asg bd row N st pend => (some ⟨f, ps, asg, bd, N, st, pend⟩, rowOf (KR.map row))
  | _ => (none, .nil)
def rngB (KR : List Nat) (v : RV) (rs : V) : Blk := .rng v.f v.ps v.asg v.bd (look (fun _ => .junk) (putT KR rs .nil)) v.N v.st v.pend
section
variable {B : Base}
/-- What is kept of a state at a loop's head: some temporaries, some variables, and a range over a function: some of the frame it began in. -/
def vwY (n0 N0 : Nat) (KT KH : List Nat) (rb : Nat) (KR : List Nat) (x : St B) : Bool × V × V × Option RV × V :=
  ((vw n0 N0 KT KH x).1 && (Nat.blt rb n0 && (rngV KR (x.blk rb)).2.belowB n0), (vw n0 N0 KT KH x).2.1, (vw n0 N0 KT KH x).2.2, rngV KR (x.blk rb))
/-- The state of which just that is known. -/
def canonY (n0 N0 : Nat) (KT KH : List Nat) (rb : Nat) (KR : List Nat) (ts bs : V) (rv : RV) (rs : V) : St B :=
  { t := putT KT ts (.fill .junk), h := (putB KH bs (.fill .any)).set rb (rngB KR rv rs), n := n0, N := N0 }
def SameY (n0 N0 : Nat) (KT KH : List Nat) (rb : Nat) (KR : List Nat) (x : St B) (ts bs : V) (rv : RV) (rs : V) : Prop :=
  (vwY n0 N0 KT KH rb KR x).1 = true ∧ (vwY n0 N0 KT KH rb KR x).2.1.soft = ts.soft ∧ (vwY n0 N0 KT KH rb KR x).2.2.1.soft = bs.soft ∧ (vwY n0 N0 KT KH rb KR x).2.2.2.1 = some rv ∧ (vwY n0 N0 KT KH rb KR x).2.2.2.2.soft = rs.soft
/-- Behind a round the state is one of the family again. -/
theorem canonY_rel {B' : Base} {lo base : Nat} {m : Nat → Option Nat} {F : Nat → Prop} {x : St B} {a : Act} {w : World} {n0 N0 : Nat} {KT KH : List Nat} {rb : Nat} {KR : List Nat} {ts bs : V} {rv : RV} {rs : V}
    (hr : Rel lo base m F x a w) (h : SameY n0 N0 KT KH rb KR x ts bs rv rs) :
    n0 ≤ x.n ∧ Rel lo base (cutM m n0) F (canonY n0 N0 KT KH rb KR ts bs rv rs : St B') a w := by
  obtain ⟨h1, h2, h3, h4, h5⟩ := h
  simp only [vwY] at h1 h2 h3 h4 h5
  simp only [Bool.and_eq_true] at h1
  obtain ⟨h1, hrb, hrs⟩ := h1
  have hrb : rb < n0 := by simpa [Nat.blt_eq] using hrb
  obtain ⟨hn, hc⟩ := canon_rel (B' := B') hr (n0 := n0) (N0 := N0) (KT := KT) (KH := KH) (ts := ts) (bs := bs) ⟨h1, h2, h3⟩
  have hblk : ∀ b, (canonY n0 N0 KT KH rb KR ts bs rv rs : St B').blk b = if b = rb then rngB KR rv rs else (canon n0 N0 KT KH ts bs : St B').blk b := fun b => look_set _ _ _ _ _
  have hxb : ∃ f ps asg bd row N st pend, x.blk rb = .rng f ps asg bd row N st pend := by
    cases hb : x.blk rb <;> rw [hb] at h4 <;> try (cases h4; done)
    exact ⟨_, _, _, _, _, _, _, _, rfl⟩
  obtain ⟨f, ps, asg, bd, row, N, st, pend, hxb⟩ := hxb
  rw [hxb] at h4 h5 hrs
  simp only [rngV] at h4 h5 hrs
  injection h4 with h4
  subst h4
  refine ⟨hn, ⟨hc.hr.low, hc.hr.fdom, fun b hb' => ?_, hc.hr.dom, hc.hr.new, hc.hr.gl, hc.hr.own, fun b b' B h h' hne => ?_⟩, hc.defers, hc.size, hc.tmp⟩
  · rw [hblk]
    by_cases e : b = rb
    · rw [if_pos e, e]
      have hB := hr.hr.blk rb (Nat.lt_of_lt_of_le hrb hn)
      rw [hxb] at hB
      obtain ⟨l, r, k1, k2, k3, k4, k5, k6, k7, k8, k9⟩ := hB
      refine ⟨l, r, ?_, k2, k3, k4, k5, k6, k7, k8, fun i => ?_⟩
      · unfold cutM; rw [if_pos hrb]; exact k1
      · refine putT_rel (g := fun j => r.tmps.getD j Go.undef) KR rs .nil (fun j => by show R F w .junk n0 _ _; simp only [R]) _ (by rw [List.length_map]) h5.symm (fun i k v hk hv => ?_) i
        rw [List.getElem?_map, hk] at hv
        injection hv with hv
        have hmem : v ∈ KR.map row := by rw [← hv]; exact List.mem_map.2 ⟨k, List.mem_of_getElem? hk, rfl⟩
        have hbv := belowB_row _ hrs v hmem
        subst hv
        exact (R_cut _ x.n hbv).1 _ (k9 k)
    · rw [if_neg e]; exact hc.hr.blk b hb'
  · have hlt : ∀ c C, cutM m n0 c = some C → m c = some C := fun c C hc => by
      unfold cutM at hc
      by_cases e : c < n0
      · rw [if_pos e] at hc; exact hc
      · rw [if_neg e] at hc; cases hc
    have hor := hr.hr.inj b b' B (hlt _ _ h) (hlt _ _ h') hne
    have hany : ∀ c, x.blk c = .any → (canonY n0 N0 KT KH rb KR ts bs ⟨f, ps, asg, bd, N, st, pend⟩ rs : St B').blk c = .any := fun c hcx => by
      rw [hblk]
      have e : c ≠ rb := fun e => by rw [e, hxb] at hcx; cases hcx
      rw [if_neg e]
      refine putB_any KH bs (.fill .any) rfl _ (by rw [List.length_map]) h3.symm fun i v hk hv => ?_
      rw [List.getElem?_map, hk] at hv
      injection hv with hv
      rw [← hv]
      show blkV (x.blk c) = .junk
      rw [hcx]
      rfl
    exact hor.imp (hany b) (hany b')

/-- THE RULE FOR A LOOP in whose rounds a range over a function is asked. -/
theorem loop_canonY {E : Env} (hE : E.Ok) {k : Nat} {f : FuncId} {b : Code} (hin : ∀ b' ∈ loopsOf b, InFn E.P f b') {n0 N0 : Nat} {KT KH : List Nat} {rb : Nat} {KR : List Nat} {ι : Type} (ts bs : ι → V) (rv : ι → RV) (rs : ι → V) (Inv : ι → Prop) (μ : ι → Nat) (Φ : Ex × St B → Prop)
    (step : ∀ i, Inv i → (ev E k f b B (canonY n0 N0 KT KH rb KR (ts i) (bs i) (rv i) (rs i))).holds E.P fun x => match x.1 with
      | .normal => ∃ i', Inv i' ∧ μ i' < μ i ∧ SameY n0 N0 KT KH rb KR x.2 (ts i') (bs i') (rv i') (rs i')
      | e => ∃ ts' bs' rv' rs', SameY n0 N0 KT KH rb KR x.2 ts' bs' rv' rs' ∧ Φ (e, canonY n0 N0 KT KH rb KR ts' bs' rv' rs'))
    {s : St B} (hn : s.n = n0) {i0 : ι} (h0 : Inv i0) (hs : SameY n0 N0 KT KH rb KR s (ts i0) (bs i0) (rv i0) (rs i0)) : SemLoop E.P b s Φ := by
  intro ro lo base m F a w Q hro hr hQ
  have main : ∀ (q : Nat) (i : ι), μ i ≤ q → Inv i → ∀ m1 F1 a1 w1, Ext base m F s.n w m1 F1 n0 w1 → Rel lo base m1 F1 (canonY n0 N0 KT KH rb KR (ts i) (bs i) (rv i) (rs i) : St B) a1 w1 → LoopWp E.P ro b Q a1 w1 := by
    intro q
    induction q with
    | zero =>
      intro i hi hI m1 F1 a1 w1 hx hr1
      refine LoopWp.round (wpX.wp (ev_ok hE k ro f b B _ lo base m1 F1 a1 w1 _ _ (fun b' hb' _ _ => hin b' hb') hro hr1 (step i hI) fun e s' hP m2 F2 a2 w2 k1 k2 => ?_))
      have hx2 := cut_ext (n0 := n0) (hx.trans k1) hn
      cases e with
      | normal => obtain ⟨i', _, h2, _⟩ := hP; omega
      | exit id => obtain ⟨ts', bs', rv', rs', h1, h2⟩ := hP; exact hQ (.exit id) _ h2 _ _ _ _ hx2 (canonY_rel k2 h1).2
      | ret => obtain ⟨ts', bs', rv', rs', h1, h2⟩ := hP; exact hQ .ret _ h2 _ _ _ _ hx2 (canonY_rel k2 h1).2
    | succ q ih =>
      intro i hi hI m1 F1 a1 w1 hx hr1
      refine LoopWp.round (wpX.wp (ev_ok hE k ro f b B _ lo base m1 F1 a1 w1 _ _ (fun b' hb' _ _ => hin b' hb') hro hr1 (step i hI) fun e s' hP m2 F2 a2 w2 k1 k2 => ?_))
      have hx2 := cut_ext (n0 := n0) (hx.trans k1) hn
      cases e with
      | normal => obtain ⟨i', h1, h2, h3⟩ := hP; exact ih i' (by omega) h1 _ _ _ _ hx2 (canonY_rel k2 h3).2
      | exit id => obtain ⟨ts', bs', rv', rs', h1, h2⟩ := hP; exact hQ (.exit id) _ h2 _ _ _ _ hx2 (canonY_rel k2 h1).2
      | ret => obtain ⟨ts', bs', rv', rs', h1, h2⟩ := hP; exact hQ .ret _ h2 _ _ _ _ hx2 (canonY_rel k2 h1).2
  refine main (μ i0) i0 (Nat.le_refl _) h0 (cutM m n0) F a w ?_ (canonY_rel hr hs).2
  exact cut_ext (Ext.refl base m F s.n w) hn
end
/-- The same, by what is seen of the states behind a round. -/
theorem loop_viewY {B : Base} {E : Env} (hE : E.Ok) {k : Nat} {f : FuncId} {b : Code} (hin : ∀ b' ∈ loopsOf b, InFn E.P f b') {n0 N0 : Nat} {KT KH : List Nat} {rb : Nat} {KR : List Nat} {ι : Type} (ts bs : ι → V) (rv : ι → RV) (rs : ι → V) (Inv : ι → Prop) (μ : ι → Nat) (Φ : Ex × St B → Prop)
    {T : ι → Tree (Ex × Bool × V × V × Option RV × V)} (hT : ∀ i, ((ev E k f b B (canonY n0 N0 KT KH rb KR (ts i) (bs i) (rv i) (rs i))).bind fun x => Tree.leaf (x.1, vwY n0 N0 KT KH rb KR x.2)) = T i)
    (step : ∀ i, Inv i → (T i).holds E.P fun y => match y.1 with
      | .normal => y.2.1 = true ∧ ∃ i', Inv i' ∧ μ i' < μ i ∧ y.2.2.1.soft = (ts i').soft ∧ y.2.2.2.1.soft = (bs i').soft ∧ y.2.2.2.2.1 = some (rv i') ∧ y.2.2.2.2.2.soft = (rs i').soft
      | e => y.2.1 = true ∧ ∃ ts' bs' rv' rs', y.2.2.1.soft = ts'.soft ∧ y.2.2.2.1.soft = bs'.soft ∧ y.2.2.2.2.1 = some rv' ∧ y.2.2.2.2.2.soft = rs'.soft ∧ Φ (e, canonY n0 N0 KT KH rb KR ts' bs' rv' rs'))
    {s : St B} (hn : s.n = n0) {i0 : ι} (h0 : Inv i0) (hs : SameY n0 N0 KT KH rb KR s (ts i0) (bs i0) (rv i0) (rs i0)) : SemLoop E.P b s Φ := by
  refine loop_canonY hE (k := k) hin ts bs rv rs Inv μ Φ (fun i hi => ?_) hn h0 hs
  refine Tree.holds_mono _ (fun x hx => ?_) (Tree.holds_view (hT i) (step i hi))
  obtain ⟨e, s'⟩ := x
  cases e with
  | normal => obtain ⟨h1, i', h2, h3, h4, h5, h6, h7⟩ := hx; exact ⟨i', h2, h3, h1, h4, h5, h6, h7⟩
  | exit id => obtain ⟨h1, ts', bs', rv', rs', h2, h3, h5, h6, h4⟩ := hx; exact ⟨ts', bs', rv', rs', ⟨h1, h2, h3, h5, h6⟩, h4⟩
  | ret => obtain ⟨h1, ts', bs', rv', rs', h2, h3, h5, h6, h4⟩ := hx; exact ⟨ts', bs', rv', rs', ⟨h1, h2, h3, h5, h6⟩, h4⟩
end Go.Fw
