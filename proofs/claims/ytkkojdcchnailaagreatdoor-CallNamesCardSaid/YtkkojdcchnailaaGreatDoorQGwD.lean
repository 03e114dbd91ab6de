/- Rows of abstract values and rows of the model's; what is read off a row; constants. -/
import Derived.Test.YtkkojdcchnailaaGreatDoorQGwC
namespace Go.Fw

section
variable {F : Nat → Prop} {w : World} {n : Nat} {m : Nat → Option Nat}

theorem RL_len : ∀ (cs : V) (xs : List Value), RL F w cs n m xs → cs.len = xs.length := by
  intro cs
  induction cs with
  | nil => intro xs h; simp only [RL] at h; subst h; rfl
  | cons a t _ ih => intro xs h; simp only [RL] at h; obtain ⟨x, r, rfl, _, h2⟩ := h; simp only [V.len, List.length_cons, ih r h2]
  | _ => intro xs h; simp only [RL] at h
theorem RL_nth : ∀ (cs : V) (xs : List Value), RL F w cs n m xs → ∀ i x, xs[i]? = some x → R F w (cs.nth i) n m x := by
  intro cs
  induction cs with
  | nil => intro xs h i x hx; simp only [RL] at h; subst h; cases hx
  | cons a t _ ih =>
    intro xs h i x hx
    simp only [RL] at h
    obtain ⟨y, r, rfl, h1, h2⟩ := h
    cases i with
    | zero => simp only [List.getElem?_cons_zero, Option.some.injEq] at hx; subst hx; exact h1
    | succ i => simp only [List.getElem?_cons_succ] at hx; exact ih r h2 i x hx
  | _ => intro xs h; simp only [RL] at h
theorem RL_drop : ∀ (cs : V) (xs : List Value), RL F w cs n m xs → ∀ i, RL F w (cs.drop i) n m (xs.drop i) := by
  intro cs
  induction cs with
  | nil => intro xs h i; simp only [RL] at h; subst h; simp only [V.drop, List.drop_nil, RL]
  | cons a t _ ih =>
    intro xs h i
    have h0 := h
    simp only [RL] at h
    obtain ⟨y, r, rfl, h1, h2⟩ := h
    cases i with
    | zero => exact h0
    | succ i => simp only [List.drop_succ_cons]; exact ih r h2 i
  | _ => intro xs h; simp only [RL] at h
theorem RL_take : ∀ (cs : V) (xs : List Value), RL F w cs n m xs → ∀ i, RL F w (cs.take i) n m (xs.take i) := by
  intro cs
  induction cs with
  | nil => intro xs h i; simp only [RL] at h; subst h; simp only [V.take, List.take_nil, RL]
  | cons a t _ ih =>
    intro xs h i
    simp only [RL] at h
    obtain ⟨y, r, rfl, h1, h2⟩ := h
    cases i with
    | zero => simp only [List.take_zero]; show RL F w .nil n m []; simp only [RL]
    | succ i =>
      simp only [List.take_succ_cons]
      show RL F w (.cons a (t.take i)) n m (y :: r.take i)
      simp only [RL]
      exact ⟨y, _, rfl, h1, ih r h2 i⟩
  | _ => intro xs h; simp only [RL] at h
theorem RL_app : ∀ (cs : V) (xs : List Value), RL F w cs n m xs → ∀ (ds : V) (ys : List Value), RL F w ds n m ys → RL F w (cs.app ds) n m (xs ++ ys) := by
  intro cs
  induction cs with
  | nil => intro xs h ds ys h'; simp only [RL] at h; subst h; exact h'
  | cons a t _ ih =>
    intro xs h ds ys h'
    simp only [RL] at h
    obtain ⟨y, r, rfl, h1, h2⟩ := h
    simp only [V.app, RL, List.cons_append]
    exact ⟨y, _, rfl, h1, ih r h2 ds ys h'⟩
  | _ => intro xs h; simp only [RL] at h
/-- A row laid over another. -/
def spliceL {α : Type} : List α → Nat → List α → List α
  | [], _, _ => []
  | h :: t, 0, vs => match vs with
    | x :: r => x :: spliceL t 0 r
    | [] => h :: t
  | h :: t, o + 1, vs => h :: spliceL t o vs
theorem spliceL_length {α : Type} : ∀ (cs : List α) (o : Nat) (vs : List α), (spliceL cs o vs).length = cs.length := by
  intro cs
  induction cs with
  | nil => intro o vs; rfl
  | cons h t ih =>
    intro o vs
    cases o with
    | zero => cases vs <;> simp only [spliceL, List.length_cons, ih]
    | succ o => simp only [spliceL, List.length_cons, ih]
theorem spliceL_get {α : Type} : ∀ (cs : List α) (o : Nat) (vs : List α) (j : Nat), j < cs.length →
    (spliceL cs o vs)[j]? = if o ≤ j ∧ j < o + vs.length then vs[j - o]? else cs[j]? := by
  intro cs
  induction cs with
  | nil => intro o vs j h; simp at h
  | cons h t ih =>
    intro o vs j hj
    cases o with
    | zero =>
      cases vs with
      | nil => simp [spliceL]
      | cons x r =>
        cases j with
        | zero => simp [spliceL]
        | succ j =>
          simp only [spliceL, List.getElem?_cons_succ]
          rw [ih 0 r j (by simpa using hj)]
          simp only [Nat.zero_le, true_and, Nat.zero_add, Nat.sub_zero, List.length_cons, Nat.add_lt_add_iff_right, List.getElem?_cons_succ]
    | succ o =>
      cases j with
      | zero => simp [spliceL]
      | succ j =>
        simp only [spliceL, List.getElem?_cons_succ]
        rw [ih o vs j (by simpa using hj)]
        have e : (o + 1 ≤ j + 1 ∧ j + 1 < o + 1 + vs.length) ↔ (o ≤ j ∧ j < o + vs.length) := by omega
        simp only [e, Nat.add_sub_add_right]
theorem RL_splice : ∀ (cs : V) (xs : List Value), RL F w cs n m xs → ∀ (o : Nat) (vs : V) (ys : List Value), RL F w vs n m ys →
    RL F w (cs.splice o vs) n m (spliceL xs o ys) := by
  intro cs
  induction cs with
  | nil => intro xs h o vs ys _; simp only [RL] at h; subst h; simp only [V.splice, spliceL, RL]
  | cons a t _ ih =>
    intro xs h o vs ys hv
    have h0 := h
    simp only [RL] at h
    obtain ⟨y, r, rfl, h1, h2⟩ := h
    cases o with
    | zero =>
      cases vs with
      | nil => simp only [RL] at hv; subst hv; exact h0
      | cons b u =>
        simp only [RL] at hv
        obtain ⟨z, q, rfl, h3, h4⟩ := hv
        show RL F w (.cons b (t.splice 0 u)) n m (z :: spliceL r 0 q)
        simp only [RL]
        exact ⟨z, _, rfl, h3, ih r h2 0 u q h4⟩
      | _ => simp only [RL] at hv
    | succ o =>
      show RL F w (.cons a (t.splice o vs)) n m (y :: spliceL r o ys)
      simp only [RL]
      exact ⟨y, _, rfl, h1, ih r h2 o vs ys hv⟩
  | _ => intro xs h; simp only [RL] at h

theorem R_leaf (v : Value) : R F w (V.ofLeaf v) n m v := by
  unfold V.ofLeaf
  split <;> first
    | (simp only [R]; done)
    | (simp only [R]; exact ⟨_, _, rfl, by simp_all [RL], by simp_all [RL]⟩)
    | (simp only [R]; split <;> simp_all [R, RL])
    | (split <;> simp_all [R, RL])
theorem RL_leaves : ∀ (l : List Value), RL F w (V.ofList (l.map V.ofLeaf)) n m l := by
  intro l
  induction l with
  | nil => simp only [List.map_nil, V.ofList, RL]
  | cons v l ih => simp only [List.map_cons, V.ofList, RL]; exact ⟨v, l, rfl, R_leaf v, ih⟩
theorem R_const (v : Value) : R F w (V.ofValue v) n m v := by
  unfold V.ofValue
  split
  · simp only [R]; exact ⟨_, rfl, RL_leaves _⟩
  · exact R_leaf v
theorem R_cell (v : V) (x : Value) (h : R F w v n m x) (hs : v.cell = true) : (∀ cs, x ≠ .agg cs) ∧ ∀ cs, x ≠ .tuple cs := by
  cases v
  case ifc => simp only [R] at h; rcases h with ⟨_, rfl⟩ | ⟨_, _, _, rfl⟩ <;> exact ⟨(fun _ => by simp), fun _ => by simp⟩
  case rptr => simp only [R] at h; obtain ⟨_, _, _, rfl, _⟩ := h; exact ⟨(fun _ => by simp), fun _ => by simp⟩
  case yld => simp only [R] at h; obtain ⟨_, _, rfl, _⟩ := h; exact ⟨(fun _ => by simp), fun _ => by simp⟩
  case mp => simp only [R] at h; obtain ⟨_, _, rfl, _⟩ := h; exact ⟨(fun _ => by simp), fun _ => by simp⟩
  case osl => simp only [R] at h; obtain ⟨_, _, _, rfl, _⟩ := h; exact ⟨(fun _ => by simp), fun _ => by simp⟩
  case rsl => simp only [R] at h; obtain ⟨_, _, rfl, _⟩ := h; exact ⟨(fun _ => by simp), fun _ => by simp⟩
  case fn => simp only [R] at h; obtain ⟨_, _, rfl, _⟩ := h; exact ⟨(fun _ => by simp), fun _ => by simp⟩
  case rmp => simp only [R] at h; obtain ⟨_, rfl, _⟩ := h; exact ⟨(fun _ => by simp), fun _ => by simp⟩
  case osp => simp only [R] at h; obtain ⟨_, _, _, rfl, _⟩ := h; exact ⟨(fun _ => by simp), fun _ => by simp⟩
  case esl => simp only [R] at h; obtain ⟨_, rfl, _⟩ := h; exact ⟨(fun _ => by simp), fun _ => by simp⟩
  case ptr => simp only [R] at h; obtain ⟨_, _, rfl, _⟩ := h; exact ⟨(fun _ => by simp), fun _ => by simp⟩
  all_goals first
    | (cases hs; done)
    | (simp only [R] at h; subst h; exact ⟨(fun _ => by simp), fun _ => by simp⟩)
/-- The cells of a value. -/
theorem RL_cells (v : V) (x : Value) (h : R F w v n m x) (hs : v.solid = true) : RL F w v.cells n m x.cells.toList := by
  cases v with
  | agg cs => simp only [R] at h; obtain ⟨xs, rfl, h⟩ := h; exact h
  | junk => cases hs
  | nil => cases hs
  | cons a b => cases hs
  | _ =>
    have hc : x.cells = #[x] := by
      first
        | (simp only [R] at h; subst h; rfl)
        | (obtain ⟨ha, _⟩ := R_cell _ x h rfl; cases x <;> first | rfl | exact absurd rfl (ha _))
        | (simp only [R] at h; obtain ⟨_, rfl, _⟩ := h; rfl)
        | (simp only [R, Go.undef] at h; subst h; rfl)
    rw [hc]
    simp only [V.cells, RL]
    exact ⟨x, [], rfl, h, rfl⟩
theorem RL_allCell : ∀ (cs : V) (xs : List Value), RL F w cs n m xs → cs.allCell = true → ∀ x ∈ xs, (∀ c, x ≠ .agg c) ∧ ∀ c, x ≠ .tuple c := by
  intro cs
  induction cs with
  | nil => intro xs h _ x hx; simp only [RL] at h; subst h; cases hx
  | cons a t _ ih =>
    intro xs h hc x hx
    simp only [RL] at h
    obtain ⟨y, r, rfl, h1, h2⟩ := h
    simp only [V.allCell, Bool.and_eq_true] at hc
    cases hx with
    | head => exact R_cell a x h1 hc.1
    | tail _ hx => exact ih r h2 hc.2 x hx
  | _ => intro xs h; simp only [RL] at h
end
end Go.Fw
