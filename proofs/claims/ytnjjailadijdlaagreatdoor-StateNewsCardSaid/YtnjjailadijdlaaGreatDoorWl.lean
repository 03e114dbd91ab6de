/- A loop whose rounds may each be evaluated by its own environment. -/
import Derived.Test.YtnjjailadijdlaaGreatDoorGwAb
namespace Go.Fw
section
variable {B : Base}
theorem ev_okP {E : Env} (hE : E.Ok) {P : Program} (hP : E.P = P) (k : Nat) (ro : Option Nat) (f : FuncId) (c : Code) (B : Base) (s : St B) (lo base : Nat) (m : Nat → Option Nat) (F : Nat → Prop) (a : Act) (w : World) (Q : Ex × St B → Prop) (Qx : Exit → Act → World → Prop) (h1 : ∀ b ∈ loopsOf c, InFn P f b) (h2 : ro = none ∨ noRange c = true) (h3 : Rel lo base m F s a w)
    (h4 : (ev E k f c B s).holds P Q) (h5 : ∀ e s', Q (e, s') → ∀ m' F' a' w', Ext base m F s.n w m' F' s'.n w' → Rel lo base m' F' s' a' w' → Qx e.toExit a' w') : wpX P ro c Qx a w := by
  subst hP
  exact ev_ok hE k ro f c B s lo base m F a w Q Qx (fun b hb _ _ => h1 b hb) h2 h3 h4 h5
/-- THE RULE FOR A LOOP in whose states blocks of whatever kind are kept. -/
theorem loop_canonE {P : Program} {ι : Type} {E : ι → Env} (hE : ∀ i, (E i).Ok) (hP : ∀ i, (E i).P = P) {k : Nat} {f : FuncId} {b : Code} (hin : ∀ b' ∈ loopsOf b, InFn P f b') {n0 N0 : Nat} {KT KH XB : List Nat} (ts bs : ι → V) (ys : ι → List Blk) (Inv : ι → Prop) (μ : ι → Nat) (Φ : Ex × St B → Prop)
    (step : ∀ i, Inv i → (ev (E i) k f b B (canonG n0 N0 KT KH XB (ts i) (bs i) (ys i))).holds P fun x => match x.1 with
      | .normal => ∃ i', Inv i' ∧ μ i' < μ i ∧ SameG n0 N0 KT KH XB x.2 (ts i') (bs i') (ys i')
      | e => ∃ ts' bs' ys', SameG n0 N0 KT KH XB x.2 ts' bs' ys' ∧ Φ (e, canonG n0 N0 KT KH XB ts' bs' ys'))
    {s : St B} (hn : s.n = n0) {i0 : ι} (h0 : Inv i0) (hs : SameG n0 N0 KT KH XB s (ts i0) (bs i0) (ys i0)) : SemLoop P b s Φ := by
  intro ro lo base m F a w Q hro hr hQ
  have main : ∀ (q : Nat) (i : ι), μ i ≤ q → Inv i → ∀ m1 F1 a1 w1, Ext base m F s.n w m1 F1 n0 w1 → Rel lo base m1 F1 (canonG n0 N0 KT KH XB (ts i) (bs i) (ys i) : St B) a1 w1 → LoopWp P ro b Q a1 w1 := by
    intro q
    induction q with
    | zero =>
      intro i hi hI m1 F1 a1 w1 hx hr1
      refine LoopWp.round (wpX.wp (ev_okP (hE i) (hP i) k ro f b B _ lo base m1 F1 a1 w1 _ _ hin hro hr1 ((step i hI)) fun e s' hPs m2 F2 a2 w2 k1 k2 => ?_))
      have hx2 := cut_ext (n0 := n0) (hx.trans k1) hn
      cases e with
      | normal => obtain ⟨i', _, h2, _⟩ := hPs; omega
      | exit id => obtain ⟨ts', bs', ys', h1, h2⟩ := hPs; exact hQ (.exit id) _ h2 _ _ _ _ hx2 (canonG_rel k2 h1).2
      | ret => obtain ⟨ts', bs', ys', h1, h2⟩ := hPs; exact hQ .ret _ h2 _ _ _ _ hx2 (canonG_rel k2 h1).2
    | succ q ih =>
      intro i hi hI m1 F1 a1 w1 hx hr1
      refine LoopWp.round (wpX.wp (ev_okP (hE i) (hP i) k ro f b B _ lo base m1 F1 a1 w1 _ _ hin hro hr1 ((step i hI)) fun e s' hPs m2 F2 a2 w2 k1 k2 => ?_))
      have hx2 := cut_ext (n0 := n0) (hx.trans k1) hn
      cases e with
      | normal => obtain ⟨i', h1, h2, h3⟩ := hPs; exact ih i' (by omega) h1 _ _ _ _ hx2 (canonG_rel k2 h3).2
      | exit id => obtain ⟨ts', bs', ys', h1, h2⟩ := hPs; exact hQ (.exit id) _ h2 _ _ _ _ hx2 (canonG_rel k2 h1).2
      | ret => obtain ⟨ts', bs', ys', h1, h2⟩ := hPs; exact hQ .ret _ h2 _ _ _ _ hx2 (canonG_rel k2 h1).2
  refine main (μ i0) i0 (Nat.le_refl _) h0 (cutM m n0) F a w ?_ (canonG_rel hr hs).2
  exact cut_ext (Ext.refl base m F s.n w) hn
end
/-- The same, by what is seen of the states behind a round. -/
theorem loop_viewE {B : Base} {P : Program} {ι : Type} {E : ι → Env} (hE : ∀ i, (E i).Ok) (hP : ∀ i, (E i).P = P) {k : Nat} {f : FuncId} {b : Code} (hin : ∀ b' ∈ loopsOf b, InFn P f b') {n0 N0 : Nat} {KT KH XB : List Nat} (ts bs : ι → V) (ys : ι → List Blk) (Inv : ι → Prop) (μ : ι → Nat) (Φ : Ex × St B → Prop)
    {T : ι → Tree (Ex × Bool × V × V × List Blk)} (hT : ∀ i, ((ev (E i) k f b B (canonG n0 N0 KT KH XB (ts i) (bs i) (ys i))).bind fun x => Tree.leaf (x.1, vwG n0 N0 KT KH XB x.2)) = T i)
    (step : ∀ i, Inv i → (T i).holds P fun y => match y.1 with
      | .normal => y.2.1 = true ∧ ∃ i', Inv i' ∧ μ i' < μ i ∧ y.2.2.1.soft = (ts i').soft ∧ y.2.2.2.1.soft = (bs i').soft ∧ AllB n0 y.2.2.2.2 (ys i')
      | e => y.2.1 = true ∧ ∃ ts' bs' ys', y.2.2.1.soft = ts'.soft ∧ y.2.2.2.1.soft = bs'.soft ∧ AllB n0 y.2.2.2.2 ys' ∧ Φ (e, canonG n0 N0 KT KH XB ts' bs' ys'))
    {s : St B} (hn : s.n = n0) {i0 : ι} (h0 : Inv i0) (hs : SameG n0 N0 KT KH XB s (ts i0) (bs i0) (ys i0)) : SemLoop P b s Φ := by
  refine loop_canonE hE hP (k := k) hin ts bs ys Inv μ Φ (fun i hi => ?_) hn h0 hs
  refine Tree.holds_mono _ (fun x hx => ?_) (Tree.holds_view (hT i) (step i hi))
  obtain ⟨e, s'⟩ := x
  cases e with
  | normal => obtain ⟨h1, i', h2, h3, h4, h5, h6⟩ := hx; exact ⟨i', h2, h3, h1, h4, h5, h6⟩
  | exit id => obtain ⟨h1, ts', bs', ys', h2, h3, h5, h4⟩ := hx; exact ⟨ts', bs', ys', ⟨h1, h2, h3, h5⟩, h4⟩
  | ret => obtain ⟨h1, ts', bs', ys', h2, h3, h5, h4⟩ := hx; exact ⟨ts', bs', ys', ⟨h1, h2, h3, h5⟩, h4⟩

end Go.Fw
