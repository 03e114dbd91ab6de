/- Loops in whose states blocks of whatever kind are kept: maps, ranges over functions, rows. -/
import Derived.Test.YtnjjailadijdlaaGreatDoorGwAa
namespace Go.Fw

/-- Whatever stands for the first block stands for the second, by names below a number. -/
def BOk (n0 : Nat) (x y : Blk) : Prop := (x = .any → y = .any) ∧ ∀ (F : Nat → Prop) (w : World) (n : Nat) (m : Nat → Option Nat) (B : Option Nat) (b : Nat), b < n0 → B = m b → RB F w n m x B → RB F w n0 (cutM m n0) y B
def putX : List Nat → List Blk → PT Blk → PT Blk
  | b :: bs, y :: ys, t => putX bs ys (t.set b y)
  | _, _, t => t
theorem putX_all {d : Nat → Blk} {Q : Nat → Blk → Prop} : ∀ (bs : List Nat) (ys : List Blk) (t : PT Blk), (∀ j, Q j (look d t j)) → (∀ (i b : Nat) y, bs[i]? = some b → ys[i]? = some y → Q b y) → ∀ j, Q j (look d (putX bs ys t) j) := by
  intro bs
  induction bs with
  | nil => intro ys t ht _; exact ht
  | cons b bs ih =>
    intro ys t ht hq
    cases ys with
    | nil => exact ht
    | cons y ys =>
      refine ih ys (t.set b y) (fun j => ?_) fun i b' y' h1 h2 => hq (i + 1) b' y' (by simpa using h1) (by simpa using h2)
      rw [look_set]
      by_cases e : j = b
      · rw [if_pos e, e]; exact hq 0 b y rfl rfl
      · rw [if_neg e]; exact ht j
section
variable {B : Base}
def vwG (n0 N0 : Nat) (KT KH XB : List Nat) (x : St B) : Bool × V × V × List Blk :=
  ((vw n0 N0 KT KH x).1 && allLt n0 XB, (vw n0 N0 KT KH x).2.1, (vw n0 N0 KT KH x).2.2, XB.map x.blk)
def canonG (n0 N0 : Nat) (KT KH XB : List Nat) (ts bs : V) (ys : List Blk) : St B :=
  { t := putT KT ts (.fill .junk), h := putX XB ys (putB KH bs (.fill .any)), n := n0, N := N0 }
/-- Each block stands for the one beside it. -/
def AllB (n0 : Nat) : List Blk → List Blk → Prop
  | [], [] => True
  | x :: xs, y :: ys => BOk n0 x y ∧ AllB n0 xs ys
  | _, _ => False
theorem AllB_get {n0 : Nat} : ∀ (xs ys : List Blk), AllB n0 xs ys → ∀ (i : Nat) x y, xs[i]? = some x → ys[i]? = some y → BOk n0 x y := by
  intro xs
  induction xs with
  | nil => intro ys _ i x y h; simp at h
  | cons a xs ih =>
    intro ys h i x y hx hy
    cases ys with
    | nil => simp at hy
    | cons b ys =>
      cases i with
      | zero => simp at hx hy; subst hx; subst hy; exact h.1
      | succ i => exact ih ys h.2 i x y (by simpa using hx) (by simpa using hy)
def SameG (n0 N0 : Nat) (KT KH XB : List Nat) (x : St B) (ts bs : V) (ys : List Blk) : Prop :=
  (vwG n0 N0 KT KH XB x).1 = true ∧ (vwG n0 N0 KT KH XB x).2.1.soft = ts.soft ∧ (vwG n0 N0 KT KH XB x).2.2.1.soft = bs.soft ∧ AllB n0 (vwG n0 N0 KT KH XB x).2.2.2 ys
theorem canonG_rel {B' : Base} {lo base : Nat} {m : Nat → Option Nat} {F : Nat → Prop} {x : St B} {a : Act} {w : World} {n0 N0 : Nat} {KT KH XB : List Nat} {ts bs : V} {ys : List Blk}
    (hr : Rel lo base m F x a w) (h : SameG n0 N0 KT KH XB x ts bs ys) :
    n0 ≤ x.n ∧ Rel lo base (cutM m n0) F (canonG n0 N0 KT KH XB ts bs ys : St B') a w := by
  obtain ⟨h1, h2, h3, h4⟩ := h
  simp only [vwG] at h1 h2 h3 h4
  simp only [Bool.and_eq_true] at h1
  obtain ⟨h1, hlt⟩ := h1
  obtain ⟨hn, hc⟩ := canon_rel (B' := B') hr (n0 := n0) (N0 := N0) (KT := KT) (KH := KH) (ts := ts) (bs := bs) ⟨h1, h2, h3⟩
  have hX : ∀ (i b : Nat) y, XB[i]? = some b → ys[i]? = some y → b < n0 ∧ BOk n0 (x.blk b) y := fun i b y hb hy =>
    ⟨allLt_mem XB hlt b (List.mem_of_getElem? hb), AllB_get _ _ h4 i _ y (by rw [List.getElem?_map, hb]; rfl) hy⟩
  refine ⟨hn, ⟨hc.hr.low, hc.hr.fdom, fun b hb' => ?_, hc.hr.dom, hc.hr.new, hc.hr.gl, hc.hr.own, fun b b' B h h' hne => ?_⟩, hc.defers, hc.size, hc.tmp⟩
  · refine putX_all (Q := fun j y => j < n0 → RB F w n0 (cutM m n0) y (cutM m n0 j)) XB ys (putB KH bs (.fill .any)) (fun j hj => hc.hr.blk j hj) (fun i c y hb hy hcn => ?_) b hb'
    obtain ⟨k1, _, k2⟩ := hX i c y hb hy
    have e : cutM m n0 c = m c := by unfold cutM; rw [if_pos k1]
    rw [e]
    exact k2 F w x.n m (m c) c k1 rfl (hr.hr.blk c (Nat.lt_of_lt_of_le k1 hn))
  · have hcut : ∀ c C, cutM m n0 c = some C → m c = some C := fun c C hc => by
      unfold cutM at hc
      by_cases e : c < n0
      · rw [if_pos e] at hc; exact hc
      · rw [if_neg e] at hc; cases hc
    have hor := hr.hr.inj b b' B (hcut _ _ h) (hcut _ _ h') hne
    have hany : ∀ c, x.blk c = .any → (canonG n0 N0 KT KH XB ts bs ys : St B').blk c = .any := fun c hcx => by
      refine putX_all (Q := fun j y => x.blk j = .any → y = .any) XB ys (putB KH bs (.fill .any)) (fun j hj => ?_) (fun i c y hb hy hcn => (hX i c y hb hy).2.1 hcn) c hcx
      refine putB_any KH bs (.fill .any) rfl _ (by rw [List.length_map]) h3.symm fun i v hk hv => ?_
      rw [List.getElem?_map, hk] at hv
      injection hv with hv
      rw [← hv]
      show blkV (x.blk j) = .junk
      rw [hj]
      rfl
    exact hor.imp (hany b) (hany b')

/-- THE RULE FOR A LOOP in whose states blocks of whatever kind are kept. -/
theorem loop_canonG {E : Env} (hE : E.Ok) {k : Nat} {f : FuncId} {b : Code} (hin : ∀ b' ∈ loopsOf b, InFn E.P f b') {n0 N0 : Nat} {KT KH XB : List Nat} {ι : Type} (ts bs : ι → V) (ys : ι → List Blk) (Inv : ι → Prop) (μ : ι → Nat) (Φ : Ex × St B → Prop)
    (step : ∀ i, Inv i → (ev E k f b B (canonG n0 N0 KT KH XB (ts i) (bs i) (ys i))).holds E.P fun x => match x.1 with
      | .normal => ∃ i', Inv i' ∧ μ i' < μ i ∧ SameG n0 N0 KT KH XB x.2 (ts i') (bs i') (ys i')
      | e => ∃ ts' bs' ys', SameG n0 N0 KT KH XB x.2 ts' bs' ys' ∧ Φ (e, canonG n0 N0 KT KH XB ts' bs' ys'))
    {s : St B} (hn : s.n = n0) {i0 : ι} (h0 : Inv i0) (hs : SameG n0 N0 KT KH XB s (ts i0) (bs i0) (ys i0)) : SemLoop E.P b s Φ := by
  intro ro lo base m F a w Q hro hr hQ
  have main : ∀ (q : Nat) (i : ι), μ i ≤ q → Inv i → ∀ m1 F1 a1 w1, Ext base m F s.n w m1 F1 n0 w1 → Rel lo base m1 F1 (canonG n0 N0 KT KH XB (ts i) (bs i) (ys i) : St B) a1 w1 → LoopWp E.P ro b Q a1 w1 := by
    intro q
    induction q with
    | zero =>
      intro i hi hI m1 F1 a1 w1 hx hr1
      refine LoopWp.round (wpX.wp (ev_ok hE k ro f b B _ lo base m1 F1 a1 w1 _ _ (fun b' hb' _ _ => hin b' hb') hro hr1 (step i hI) fun e s' hP m2 F2 a2 w2 k1 k2 => ?_))
      have hx2 := cut_ext (n0 := n0) (hx.trans k1) hn
      cases e with
      | normal => obtain ⟨i', _, h2, _⟩ := hP; omega
      | exit id => obtain ⟨ts', bs', ys', h1, h2⟩ := hP; exact hQ (.exit id) _ h2 _ _ _ _ hx2 (canonG_rel k2 h1).2
      | ret => obtain ⟨ts', bs', ys', h1, h2⟩ := hP; exact hQ .ret _ h2 _ _ _ _ hx2 (canonG_rel k2 h1).2
    | succ q ih =>
      intro i hi hI m1 F1 a1 w1 hx hr1
      refine LoopWp.round (wpX.wp (ev_ok hE k ro f b B _ lo base m1 F1 a1 w1 _ _ (fun b' hb' _ _ => hin b' hb') hro hr1 (step i hI) fun e s' hP m2 F2 a2 w2 k1 k2 => ?_))
      have hx2 := cut_ext (n0 := n0) (hx.trans k1) hn
      cases e with
      | normal => obtain ⟨i', h1, h2, h3⟩ := hP; exact ih i' (by omega) h1 _ _ _ _ hx2 (canonG_rel k2 h3).2
      | exit id => obtain ⟨ts', bs', ys', h1, h2⟩ := hP; exact hQ (.exit id) _ h2 _ _ _ _ hx2 (canonG_rel k2 h1).2
      | ret => obtain ⟨ts', bs', ys', h1, h2⟩ := hP; exact hQ .ret _ h2 _ _ _ _ hx2 (canonG_rel k2 h1).2
  refine main (μ i0) i0 (Nat.le_refl _) h0 (cutM m n0) F a w ?_ (canonG_rel hr hs).2
  exact cut_ext (Ext.refl base m F s.n w) hn
end
/-- The same, by what is seen of the states behind a round. -/
theorem loop_viewG {B : Base} {E : Env} (hE : E.Ok) {k : Nat} {f : FuncId} {b : Code} (hin : ∀ b' ∈ loopsOf b, InFn E.P f b') {n0 N0 : Nat} {KT KH XB : List Nat} {ι : Type} (ts bs : ι → V) (ys : ι → List Blk) (Inv : ι → Prop) (μ : ι → Nat) (Φ : Ex × St B → Prop)
    {T : ι → Tree (Ex × Bool × V × V × List Blk)} (hT : ∀ i, ((ev E k f b B (canonG n0 N0 KT KH XB (ts i) (bs i) (ys i))).bind fun x => Tree.leaf (x.1, vwG n0 N0 KT KH XB x.2)) = T i)
    (step : ∀ i, Inv i → (T i).holds E.P fun y => match y.1 with
      | .normal => y.2.1 = true ∧ ∃ i', Inv i' ∧ μ i' < μ i ∧ y.2.2.1.soft = (ts i').soft ∧ y.2.2.2.1.soft = (bs i').soft ∧ AllB n0 y.2.2.2.2 (ys i')
      | e => y.2.1 = true ∧ ∃ ts' bs' ys', y.2.2.1.soft = ts'.soft ∧ y.2.2.2.1.soft = bs'.soft ∧ AllB n0 y.2.2.2.2 ys' ∧ Φ (e, canonG n0 N0 KT KH XB ts' bs' ys'))
    {s : St B} (hn : s.n = n0) {i0 : ι} (h0 : Inv i0) (hs : SameG n0 N0 KT KH XB s (ts i0) (bs i0) (ys i0)) : SemLoop E.P b s Φ := by
  refine loop_canonG hE (k := k) hin ts bs ys Inv μ Φ (fun i hi => ?_) hn h0 hs
  refine Tree.holds_mono _ (fun x hx => ?_) (Tree.holds_view (hT i) (step i hi))
  obtain ⟨e, s'⟩ := x
  cases e with
  | normal => obtain ⟨h1, i', h2, h3, h4, h5, h6⟩ := hx; exact ⟨i', h2, h3, h1, h4, h5, h6⟩
  | exit id => obtain ⟨h1, ts', bs', ys', h2, h3, h5, h4⟩ := hx; exact ⟨ts', bs', ys', ⟨h1, h2, h3, h5⟩, h4⟩
  | ret => obtain ⟨h1, ts', bs', ys', h2, h3, h5, h4⟩ := hx; exact ⟨ts', bs', ys', ⟨h1, h2, h3, h5⟩, h4⟩

/-! ### Which blocks stand for which -/
theorem BOk.map {n0 : Nat} {kd : MK} {st st' : Bool} {f f' : Value → Bool × V} (h : ∀ k, kd.is k = true → (f k).1 = (f' k).1 ∧ ((f k).1 = true → (f k).2.belowB n0 = true ∧ (f k).2.soft = (f' k).2.soft)) : BOk n0 (.mapV kd st f) (.mapV kd st' f') := by
  refine ⟨fun h => (by cases h), fun F w n m B b _ _ hB => ?_⟩
  obtain ⟨b', es, clock, k1, k2, k3, k4⟩ := hB
  refine ⟨b', es, clock, k1, k2, k3, fun k hk => ?_⟩
  obtain ⟨h1, h2⟩ := k4 k hk
  obtain ⟨h3, h4⟩ := h k hk
  refine ⟨by rw [← h3]; exact h1, fun v hv => ?_⟩
  have ht : (f k).1 = true := by rw [h1, hv]; rfl
  obtain ⟨h5, h6⟩ := h4 ht
  have h7 := (R_cut (F := F) (w := w) (m := m) (f k).2 n h5).1 v (h2 v hv)
  rw [← (R_soft _ _ _).1, h6, (R_soft _ _ _).1] at h7
  exact h7
theorem BOk.any {n0 : Nat} (x : Blk) : BOk n0 x .any := ⟨fun _ => rfl, fun _ _ _ _ _ _ _ _ _ => trivial⟩
theorem BOk.rng {n0 : Nat} {f f' : FuncId} {ps : List Nat} {asg bd : Code} {row row' : Nat → V} {N st : Nat} {pd : Option Ex} (h : ∀ i, (row i).belowB n0 = true ∧ (row i).soft = (row' i).soft ∨ row' i = .junk) : BOk n0 (.rng f ps asg bd row N st pd) (.rng f' ps asg bd row' N st pd) := by
  refine ⟨fun h => (by cases h), fun F w n m B b hb e hB => ?_⟩
  obtain ⟨l, r, k1, k2, k3, k4, k5, k6, k7, k8, k9⟩ := hB
  refine ⟨l, r, k1, k2, k3, k4, k5, k6, k7, k8, fun i => ?_⟩
  rcases h i with ⟨h1, h2⟩ | h1
  · have h7 := (R_cut (F := F) (w := w) (m := m) (row i) n h1).1 _ (k9 i)
    rw [← (R_soft _ _ _).1, h2, (R_soft _ _ _).1] at h7
    exact h7
  · rw [h1]; simp only [R]
end Go.Fw
