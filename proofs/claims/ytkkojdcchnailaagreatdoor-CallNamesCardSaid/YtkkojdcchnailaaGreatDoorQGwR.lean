/- From a row's reading of its arguments to the evaluator's values; and from the evaluator's word back to the row's end. -/
import Derived.Test.YtkkojdcchnailaaGreatDoorQGwP
import Derived.Carry
import Derived.OpenShut
import Derived.ProofKit
namespace Go.Fw
open Go.WideShapes Go.RowKit Go.ChangeShapes

/-- The shapes of data that the laws take. A struct is a chain of pairs. -/
inductive Sh where
  | int (k : IntKind)
  | bool
  | str
  | unit
  | pair (a b : Sh)
  | sl (es : Nat) (e : Sh)

@[reducible] def Sh.den : Sh → Type
  | .int _ => Int
  | .bool => Bool
  | .str => List UInt8
  | .unit => Unit
  | .pair a b => a.den × b.den
  | .sl _ e => Nat × (Nat → e.den)

def Sh.dflt : (s : Sh) → s.den
  | .int _ => (0 : Int)
  | .bool => false
  | .str => ([] : List UInt8)
  | .unit => ()
  | .pair a b => (a.dflt, b.dflt)
  | .sl _ e => ((0 : Nat), fun _ => e.dflt)

/-- The cells of a datum, ahead of 'tl'. -/
def Sh.push : (s : Sh) → s.den → V → V
  | .int k, x, tl => .cons (.int false k x) tl
  | .bool, x, tl => .cons (.bool false x) tl
  | .str, x, tl => .cons (.str false x) tl
  | .unit, _, tl => tl
  | .pair a b, x, tl => a.push x.1 (b.push x.2 tl)
  | .sl es e, x, tl => .cons (.rsl false es x.1 fun i => e.push (x.2 i) .nil) tl

def Sh.wf : (s : Sh) → s.den → Prop
  | .int k, x => (Lit.int k x).wf = true
  | .bool, _ => True
  | .str, x => x.length ≤ maxLen
  | .unit, _ => True
  | .pair a b, x => a.wf x.1 ∧ b.wf x.2
  | .sl _ e, x => x.1 ≤ maxLen ∧ ∀ i, i < x.1 → e.wf (x.2 i)

/-- So many times a shape. -/
def shRep (s : Sh) : Nat → Sh
  | 0 => .unit
  | n + 1 => .pair s (shRep s n)
section
variable (P : Program)
def shFs (rec_ : TypeId → Option Sh) : List Field → Nat → Option (Sh × Nat)
  | [], o => some (.unit, o)
  | f :: fs, o => if f.offset = o then match rec_ f.type, shFs rec_ fs (o + P.cellsOf f.type) with
      | some a, some (b, o') => some (.pair a b, o')
      | _, _ => none
    else none
def shOf : Nat → TypeId → Option Sh
  | 0, _ => none
  | k + 1, t => match P.underlying t with
    | some .bool => if P.cellsOf t = 1 then some .bool else none
    | some (.int k) => if P.cellsOf t = 1 then some (.int k) else none
    | some .string => if P.cellsOf t = 1 then some .str else none
    | some (.struct fs) => match shFs P (shOf k) fs.toList 0 with
      | some (s, o) => if o = P.cellsOf t then some s else none
      | none => none
    | some (.slice e) => if P.cellsOf e = 0 ∨ P.cellsOf t ≠ 1 then none else match shOf k e with
      | some s => some (.sl (P.cellsOf e) s)
      | none => none
    | some (.array n e) => if P.cellsOf t = n * P.cellsOf e ∧ n ≤ 8 then match shOf k e with
      | some s => some (shRep s n)
      | none => none
      else none
    | _ => none
end

theorem ite_some {α : Type} {p : Prop} [Decidable p] {a b : α} (h : (if p then some a else none) = some b) : p ∧ a = b := by
  split at h
  · exact ⟨‹_›, by simpa using h⟩
  · cases h

theorem RL_push_nil {F : Nat → Prop} {w : World} {n : Nat} {m : Nat → Option Nat} : ∀ (s : Sh) (x : s.den) (tl : V) (xs ys : List Value),
    RL F w (s.push x .nil) n m xs → RL F w tl n m ys → RL F w (s.push x tl) n m (xs ++ ys) := by
  suffices H : ∀ (s : Sh) (x : s.den) (t1 t2 : V) (xs ys : List Value), (∀ zs, RL F w t1 n m zs → RL F w t2 n m (zs ++ ys)) → RL F w (s.push x t1) n m xs → RL F w (s.push x t2) n m (xs ++ ys) from
    fun s x tl xs ys h1 h2 => H s x .nil tl xs ys (fun zs hz => by simp only [RL] at hz; subst hz; exact h2) h1
  intro s
  induction s with
  | int k => intro x t1 t2 xs ys ht h; obtain ⟨a, r, rfl, h1, h2⟩ := h; exact ⟨a, r ++ ys, rfl, h1, ht r h2⟩
  | bool => intro x t1 t2 xs ys ht h; obtain ⟨a, r, rfl, h1, h2⟩ := h; exact ⟨a, r ++ ys, rfl, h1, ht r h2⟩
  | str => intro x t1 t2 xs ys ht h; obtain ⟨a, r, rfl, h1, h2⟩ := h; exact ⟨a, r ++ ys, rfl, h1, ht r h2⟩
  | unit => intro x t1 t2 xs ys ht h; exact ht xs h
  | pair a b iha ihb => intro x t1 t2 xs ys ht h; exact iha x.1 _ _ xs ys (fun zs hz => ihb x.2 t1 t2 zs ys ht hz) h
  | sl es e ih => intro x t1 t2 xs ys ht h; obtain ⟨a, r, rfl, h1, h2⟩ := h; exact ⟨a, r ++ ys, rfl, h1, ht r h2⟩

theorem mapM_getElem {α β : Type} {f : α → Option β} : ∀ {l : List α} {r : List β}, l.mapM f = some r → r.length = l.length ∧ ∀ i (h : i < l.length), f l[i] = r[i]? := by
  intro l
  induction l with
  | nil => intro r h; simp at h; subst h; exact ⟨rfl, fun i h => absurd h (by simp)⟩
  | cons a l ih =>
    intro r h
    simp only [List.mapM_cons, Option.bind_eq_bind, Option.bind_eq_some_iff, Option.pure_def, Option.some.injEq] at h
    obtain ⟨b, hb, r', hr', rfl⟩ := h
    obtain ⟨h1, h2⟩ := ih hr'
    refine ⟨by simp [h1], fun i hi => ?_⟩
    cases i with
    | zero => simpa using hb
    | succ i => simpa using h2 i (by simpa using hi)

theorem cells_of {w : World} {base : Nat} {a : Addr} {n : Nat} {cs : List Value} (h : w.cells? base a n = some cs) : cs.length = n ∧ ∀ i, i < n → w.cell? (a.add i) = cs[i]? := by
  unfold World.cells? at h
  split at h
  · obtain ⟨h1, h2⟩ := mapM_getElem h
    exact ⟨by simpa using h1, fun i hi => by have := h2 i (by simpa using hi); rwa [List.getElem_range] at this⟩
  · cases h

theorem add_flat (a : Addr) (h : a.spot = none) (n : Nat) : a.add n = ⟨a.block, a.off + n, none⟩ := by
  cases a; simp only at h; subst h
  unfold Addr.add; split
  · rename_i h; subst h; rfl
  · rfl

section
variable {H : Type} {enc : TypeId × Value → H} {P : Program} {w : World} {spare : Nat → Bool} {held : Bool} {F : Nat → Prop}

theorem sh_fs {k fuel : Nat} {cs : List Value}
    (ih : ∀ t s, shOf P k t = some s → ∀ cs d ps, DataW.trod enc P w 0 spare held fuel t cs = some (d, ps) → (∀ p ∈ ps, F p.block) →
      cs.length = P.cellsOf t ∧ ∃ x, RL F w (s.push x .nil) 0 (fun _ => none) cs ∧ s.wf x) :
    ∀ (fs : List Field) (o : Nat) (s : Sh) (o' : Nat), shFs P (shOf P k) fs o = some (s, o') → 
      (∀ f ∈ fs, ∃ d ps, DataW.trod enc P w 0 spare held fuel f.type ((cs.drop f.offset).take (P.cellsOf f.type)) = some (d, ps) ∧ ∀ p ∈ ps, F p.block) →
      o' = cs.length → ∃ x, RL F w (s.push x .nil) 0 (fun _ => none) (cs.drop o) ∧ s.wf x := by
  intro fs
  induction fs with
  | nil =>
    intro o s o' h _ ho
    simp only [shFs, Option.some.injEq, Prod.mk.injEq] at h
    obtain ⟨rfl, rfl⟩ := h
    refine ⟨(), ?_, trivial⟩
    show RL F w .nil 0 _ _
    simp only [RL]
    rw [ho]; exact List.drop_length
  | cons f fs ihf =>
    intro o s o' h hall ho
    simp only [shFs] at h
    split at h
    · rename_i hoff
      split at h
      · rename_i a b o'' ha hb
        simp only [Option.some.injEq, Prod.mk.injEq] at h
        obtain ⟨rfl, rfl⟩ := h
        obtain ⟨d, ps, h1, h2⟩ := hall f (List.mem_cons_self ..)
        obtain ⟨hl, x, hx, hwx⟩ := ih f.type a ha _ d ps h1 h2
        obtain ⟨y, hy, hwy⟩ := ihf _ b o'' hb (fun g hg => hall g (List.mem_cons_of_mem _ hg)) ho
        refine ⟨(x, y), ?_, hwx, hwy⟩
        have e : cs.drop o = (cs.drop f.offset).take (P.cellsOf f.type) ++ cs.drop (o + P.cellsOf f.type) := by
          rw [hoff, ← List.drop_drop, List.take_append_drop]
        rw [e]
        exact RL_push_nil a x _ _ _ hx hy
      · cases h
    · cases h

theorem sh_rep {fuel : Nat} {cs : List Value} {e : TypeId} {s : Sh} {z : Nat}
    (ih : ∀ cs d ps, DataW.trod enc P w 0 spare held fuel e cs = some (d, ps) → (∀ p ∈ ps, F p.block) → ∃ x, RL F w (s.push x .nil) 0 (fun _ => none) cs ∧ s.wf x) :
    ∀ (n o : Nat), (∀ i, i < n → ∃ d ps, DataW.trod enc P w 0 spare held fuel e ((cs.drop ((o + i) * z)).take z) = some (d, ps) ∧ ∀ p ∈ ps, F p.block) → cs.length = (o + n) * z →
      ∃ x, RL F w ((shRep s n).push x .nil) 0 (fun _ => none) (cs.drop (o * z)) ∧ (shRep s n).wf x := by
  intro n
  induction n with
  | zero =>
    intro o _ hl
    refine ⟨(), ?_, trivial⟩
    show RL F w .nil 0 _ _
    simp only [RL]
    rw [Nat.add_zero] at hl
    rw [← hl]; exact List.drop_length
  | succ n ihn =>
    intro o hall hl
    obtain ⟨d, ps, h1, h2⟩ := hall 0 (by omega)
    obtain ⟨x, hx, hwx⟩ := ih _ d ps h1 h2
    obtain ⟨y, hy, hwy⟩ := ihn (o + 1) (fun i hi => by
      have := hall (i + 1) (by omega)
      rwa [show o + (i + 1) = o + 1 + i by omega] at this) (by rw [hl]; congr 1; omega)
    refine ⟨(x, y), ?_, hwx, hwy⟩
    have e1 : cs.drop (o * z) = (cs.drop ((o + 0) * z)).take z ++ cs.drop ((o + 1) * z) := by
      rw [Nat.add_zero, Nat.add_mul, Nat.one_mul, ← List.drop_drop, List.take_append_drop]
    rw [e1]
    exact RL_push_nil s x _ _ _ hx hy

theorem sh_ok : ∀ (k : Nat) (t : TypeId) (s : Sh), shOf P k t = some s → ∀ (fuel : Nat) (cs : List Value) (d : DataW H) (ps : List MemPlace), DataW.trod enc P w 0 spare held fuel t cs = some (d, ps) → (∀ p ∈ ps, F p.block) →
    cs.length = P.cellsOf t ∧ ∃ x, RL F w (s.push x .nil) 0 (fun _ => none) cs ∧ s.wf x := by
  intro k
  induction k with
  | zero => intro t s h; cases h
  | succ k ih =>
    intro t s h fuel cs d ps hd hps
    simp only [shOf] at h
    split at h
    · rename_i hu
      rcases ite_some h with ⟨h1, rfl⟩
      obtain ⟨b, rfl, _⟩ := DataW.trod_bool hu hd
      exact ⟨h1.symm, b, ⟨_, [], rfl, rfl, rfl⟩, trivial⟩
    · rename_i ik hu
      rcases ite_some h with ⟨h1, rfl⟩
      obtain ⟨n, rfl, _, hw⟩ := DataW.trod_int hu hd
      exact ⟨h1.symm, n, ⟨_, [], rfl, rfl, rfl⟩, hw⟩
    · rename_i hu
      rcases ite_some h with ⟨h1, rfl⟩
      obtain ⟨b, rfl, _, hl⟩ := DataW.trod_string hu hd
      exact ⟨h1.symm, b.data.toList, ⟨_, [], rfl, rfl, rfl⟩, by simpa [Sh.wf] using hl⟩
    · rename_i fs hu
      split at h
      · rename_i s' o hs
        split at h
        · rename_i ho
          cases h
          obtain ⟨xs, n, rfl, hx, hlen, hxl, hf⟩ := DataW.trod_struct hu hd
          simp only [Prod.mk.injEq] at hx
          refine ⟨hlen, ?_⟩
          have := sh_fs (enc := enc) (spare := spare) (held := held) (fuel := n) (cs := cs) (fun t s h cs d ps => ih t s h n cs d ps) fs.toList 0 s o hs (fun f hfm => ?_) (ho.trans hlen.symm)
          · simpa using this
          · obtain ⟨i, hi, rfl⟩ := List.getElem_of_mem hfm
            have hi' : i < fs.size := by simpa using hi
            have h1 := hf i fs[i] (by simp [hi'])
            have hxi : i < xs.length := by omega
            refine ⟨xs[i].1, xs[i].2, ?_, fun p hp => hps p ?_⟩
            · simp only [Array.getElem_toList]
              rw [h1, List.getElem?_eq_getElem hxi]
            · rw [hx.2]
              exact List.mem_flatMap.2 ⟨xs[i], List.getElem_mem _, hp⟩
        · cases h
      · cases h
    · rename_i e hu
      split at h
      · cases h
      · rename_i hes'
        have hes : P.cellsOf e ≠ 0 := fun e0 => hes' (.inl e0)
        have hlen1 : P.cellsOf t = 1 := Classical.byContradiction fun e0 => hes' (.inr e0)
        split at h
        · rename_i s' hs
          cases h
          rcases DataW.trod_slice hu hd with ⟨rfl, _⟩ | ⟨a, len, cap, elems, rest, n, rfl, rfl, hx, _, hlc, hcm, hlen, hel, _, _⟩
          · refine ⟨hlen1.symm, ((0 : Nat), fun _ => s'.dflt), ⟨_, [], rfl, ⟨none, 0, rfl, Nat.le_refl _, .inl rfl⟩, rfl⟩, Nat.zero_le _, fun i hi => absurd hi (Nat.not_lt_zero _)⟩
          · simp only [Prod.mk.injEq] at hx
            have hpl : ∀ p ∈ MemPlace.row a ((elems.length + rest.length) * P.cellsOf e) ++ (elems ++ rest).flatMap (·.2), F p.block := fun p hp => hps p (by rw [hx.2]; exact hp)
            have hi : ∀ i, i < len → ∃ cs', w.cells? 0 (a.add (i * P.cellsOf e)) (P.cellsOf e) = some cs' ∧ ∃ x, RL F w (s'.push x .nil) 0 (fun _ => none) cs' ∧ s'.wf x := by
              intro i hil
              have h1 := hel i hil
              have hil' : i < elems.length := by omega
              rw [List.getElem?_eq_getElem hil'] at h1
              obtain ⟨cs', h2, h3⟩ := Option.bind_eq_some_iff.1 h1
              exact ⟨cs', h2, (ih e s' hs n cs' elems[i].1 elems[i].2 h3 (fun p hp => hpl p (List.mem_append_right _ (List.mem_flatMap.2 ⟨elems[i], List.mem_append_left _ (List.getElem_mem _), hp⟩)))).2⟩
            refine ⟨hlen1.symm, (len, fun i => if h : i < len then (hi i h).choose_spec.2.choose else s'.dflt), ⟨_, [], rfl, ⟨some a, cap, rfl, hlc, ?_⟩, rfl⟩, Nat.le_trans hlc hcm, fun i hil => ?_⟩
            · rcases Nat.eq_zero_or_pos len with h0 | h0
              · exact .inl h0
              · refine .inr ?_
                have hpos : 0 < P.cellsOf e := Nat.pos_of_ne_zero hes
                obtain ⟨cs0, hc0, _⟩ := hi 0 h0
                obtain ⟨hl0, hg0⟩ := cells_of hc0
                have hz := hg0 0 hpos
                rw [List.getElem?_eq_getElem (by omega)] at hz
                have hz' : w.cell? a = some cs0[0] := by simpa [Addr.add] using hz
                unfold World.cell? at hz'
                split at hz'
                · rename_i c el fr hb
                  split at hz'
                  · cases hz'
                  · rename_i hsp
                    have hsp' : a.spot = none := by simpa using hsp
                    have ea : a = ⟨a.block, a.off, none⟩ := by cases a; simp_all
                    refine ⟨a.block, a.off, congrArg some ea, hpl (.cell a.block a.off) (List.mem_append_left _ ?_), c, el, fr, hb, fun j hj => ?_⟩
                    · exact List.mem_map.2 ⟨0, List.mem_range.2 (Nat.mul_pos (by omega) hpos), rfl⟩
                    · refine ⟨(hi j hj).choose, ?_, ?_, fun q hq => ?_⟩
                      · simp only [hj, dif_pos]
                        exact (hi j hj).choose_spec.2.choose_spec.1
                      · exact (cells_of (hi j hj).choose_spec.1).1
                      · have h4 := (cells_of (hi j hj).choose_spec.1).2 q hq
                        rw [← h4]
                        have eb : ((a.add (j * P.cellsOf e)).add q) = ⟨a.block, a.off + j * P.cellsOf e + q, none⟩ := by
                          rw [add_flat a hsp', add_flat _ rfl]
                        rw [eb]
                        simp [World.cell?, hb]
                · cases hz'
            · simp only [hil, dif_pos]
              exact (hi i hil).choose_spec.2.choose_spec.2
        · cases h
    · rename_i n e hu
      split at h
      · rename_i hc
        split at h
        · rename_i s' hs
          cases h
          obtain ⟨xs, q, rfl, hx, hlen, hxl, hf⟩ := DataW.trod_array hu hd
          simp only [Prod.mk.injEq] at hx
          refine ⟨hlen, ?_⟩
          have := sh_rep (enc := enc) (spare := spare) (held := held) (fuel := q) (cs := cs) (s := s') (z := P.cellsOf e) (fun cs d ps h1 h2 => (ih e s' hs q cs d ps h1 h2).2) n 0 (fun i hi => by
            have h1 := hf i hi
            have hxi : i < xs.length := by omega
            refine ⟨xs[i].1, xs[i].2, ?_, fun p hp => hps p ?_⟩
            · rw [Nat.zero_add, h1, List.getElem?_eq_getElem hxi]
            · rw [hx.2]
              exact List.mem_flatMap.2 ⟨xs[i], List.getElem_mem _, hp⟩) (by rw [hlen, hc.1, Nat.zero_add])
          simpa using this
        · cases h
      · cases h
    · cases h

/-- AN ARGUMENT, READ: its shape's datum, and the evaluator's value for it. -/
theorem sh_arg {k : Nat} {t : TypeId} {s : Sh} {v : Value} {d : DataW H} {ps : List MemPlace} (hs : shOf P k t = some s) (hd : DataW.Trod enc P w 0 spare held t v d ps) (hps : ∀ p ∈ ps, F p.block) :
    ∃ x, RL F w (s.push x .nil) 0 (fun _ => none) v.cells.toList ∧ s.wf x := by
  obtain ⟨fuel, hf⟩ := hd
  exact (sh_ok k t s hs fuel _ d ps hf hps).2
end

/-- A shape of one cell. -/
def Sh.scalar : Sh → Bool
  | .int _ | .bool | .str | .sl .. => true
  | _ => false
/-- The value of an argument. -/
def Sh.val (s : Sh) (x : s.den) : V := match s, x with
  | .int k, x => .int false k x
  | .bool, x => .bool false x
  | .str, x => .str false x
  | .unit, _ => .agg .nil
  | .pair a b, x => .agg (a.push x.1 (b.push x.2 .nil))
  | .sl es e, x => .rsl false es x.1 fun i => e.push (x.2 i) .nil

theorem sh_val {F : Nat → Prop} {P : Program} {w W : World} {b0 : Nat} {r : Reach} {k : Nat} {t : TypeId} {s : Sh} {v : Value} (hs : shOf P (k + 1) t = some s) (hv : Value.okWide P W r b0 t v) {x : s.den}
    (h : RL F w (s.push x .nil) 0 (fun _ => none) v.cells.toList) : R F w (s.val x) 0 (fun _ => none) v := by
  have scal : ∀ y : V, (∀ z, P.underlying t = some (.struct z) → False) → (∀ z z', P.underlying t = some (.array z z') → False) → RL F w (.cons y .nil) 0 (fun _ => none) v.cells.toList → R F w y 0 (fun _ => none) v := by
    intro y h1 h2 h3
    obtain ⟨a, r, e1, h4, h5⟩ := h3
    simp only [RL] at h5
    subst h5
    have : v.cells = #[v] := by
      cases v with
      | agg cs =>
        exfalso
        simp only [Value.okWide] at hv
        unfold Cell.okWide at hv
        split at hv <;> simp_all [Cell.ok]
      | _ => rfl
    rw [this] at e1
    simp at e1
    subst e1
    exact h4
  simp only [shOf] at hs
  split at hs
  · rename_i hu
    obtain ⟨_, rfl⟩ := ite_some hs
    exact scal _ (by simp [hu]) (by simp [hu]) h
  · rename_i ik hu
    obtain ⟨_, rfl⟩ := ite_some hs
    exact scal _ (by simp [hu]) (by simp [hu]) h
  · rename_i hu
    obtain ⟨_, rfl⟩ := ite_some hs
    exact scal _ (by simp [hu]) (by simp [hu]) h
  · rename_i fs hu
    obtain ⟨cs, rfl, _⟩ := okWide_struct hu hv
    split at hs
    · rename_i s' o hfs
      obtain ⟨_, rfl⟩ := ite_some hs
      cases hl : fs.toList with
      | nil =>
        rw [hl] at hfs
        simp only [shFs, Option.some.injEq, Prod.mk.injEq] at hfs
        obtain ⟨rfl, _⟩ := hfs
        exact ⟨cs, rfl, h⟩
      | cons f fs' =>
        rw [hl] at hfs
        simp only [shFs] at hfs
        split at hfs
        · split at hfs
          · simp only [Option.some.injEq, Prod.mk.injEq] at hfs
            obtain ⟨rfl, _⟩ := hfs
            exact ⟨cs, rfl, h⟩
          · cases hfs
        · cases hfs
    · cases hs
  · rename_i e hu
    split at hs
    · cases hs
    · split at hs
      · cases hs
        exact scal _ (by simp [hu]) (by simp [hu]) h
      · cases hs
  · rename_i n' e hu
    obtain ⟨cs, rfl⟩ : ∃ cs, v = .agg cs := by
      simp only [Value.okWide, hu] at hv
      obtain ⟨cs, h1, _⟩ := hv
      exact ⟨cs, h1⟩
    split at hs
    · split at hs
      · rename_i s' _
        cases hs
        cases n' with
        | zero => exact ⟨cs, rfl, h⟩
        | succ n' => exact ⟨cs, rfl, h⟩
      · cases hs
    · cases hs
  · cases hs

/-- ALL ARGUMENTS: the shapes of a function's parameters. -/
def shAll (P : Program) (k : Nat) : List TypeId → Option Sh
  | [] => some .unit
  | t :: ts => match shOf P k t, shAll P k ts with
    | some a, some b => some (.pair a b)
    | _, _ => none
def Sh.vals : (s : Sh) → s.den → V
  | .pair a b, x => .cons (a.val x.1) (b.vals x.2)
  | _, _ => .nil

theorem sh_all {H : Type} {enc : TypeId × Value → H} {P : Program} {w : World} {b0 : Nat} {r : Reach} {spare : Nat → Bool} {held : Bool} {F : Nat → Prop} {k : Nat} :
    ∀ (ts : List TypeId) (s : Sh) (vs : List Value) (ds : List (DataW H)) (ps : List MemPlace), shAll P (k + 1) ts = some s → DataW.TrodAll enc P w 0 spare held ts vs ds ps →
      (∀ (j : Nat) t v, ts[j]? = some t → vs[j]? = some v → Value.okWide P w r b0 t v) → (∀ p ∈ ps, F p.block) →
      ∃ x, RL F w (s.vals x) 0 (fun _ => none) vs ∧ s.wf x := by
  intro ts
  induction ts with
  | nil =>
    intro s vs ds ps hs h _ _
    simp only [shAll, Option.some.injEq] at hs
    subst hs
    obtain ⟨rfl, _, _⟩ := trodAll_nil h
    exact ⟨(), rfl, trivial⟩
  | cons t ts ih =>
    intro s vs ds ps hs h hok hps
    simp only [shAll] at hs
    split at hs
    · rename_i a b ha hb
      cases hs
      obtain ⟨v, vs1, d, ds1, p, q, rfl, rfl, rfl, h1, h2⟩ := trodAll_cons h
      obtain ⟨x, hx, hwx⟩ := sh_arg ha h1 (fun z hz => hps z (List.mem_append_left _ hz))
      obtain ⟨y, hy, hwy⟩ := ih b vs1 ds1 q hb h2 (fun j t v h3 h4 => hok (j + 1) t v (by simpa using h3) (by simpa using h4)) (fun z hz => hps z (List.mem_append_right _ hz))
      exact ⟨(x, y), ⟨v, vs1, rfl, sh_val ha (hok 0 t v rfl rfl) hx, hy⟩, hwx, hwy⟩
    · cases hs

theorem trodAll_stays {H : Type} {enc : TypeId × Value → H} {P : Program} {W W' : World} (hl : laidOutB P = true) (hs : ∀ p : MemPlace, p.block < W.heap.size → W.sameAt W' p) :
    ∀ (ts : List TypeId) (vs : List Value) (ds : List (DataW H)) (ps : List MemPlace), (ts.all fun t => P.readableRec t && decide (t < P.types.size)) = true → DataW.TrodAll enc P W 0 (fun _ => true) true ts vs ds ps →
      (∀ p ∈ ps, p.block < W.heap.size) → ∀ sp : Nat → Bool, (∀ p ∈ ps, sp p.block = true) → DataW.TrodAll enc P W' 0 sp true ts vs ds ps := by
  intro ts
  induction ts with
  | nil =>
    intro vs ds ps _ h _ sp _
    obtain ⟨rfl, rfl, rfl⟩ := trodAll_nil h
    exact trodAll_mk0
  | cons t ts ih =>
    intro vs ds ps ht h hps sp hsp
    obtain ⟨v, vs1, d, ds1, p, q, rfl, rfl, rfl, h1, h2⟩ := trodAll_cons h
    simp only [List.all_cons, Bool.and_eq_true, decide_eq_true_eq] at ht
    exact trodAll_cons_mk (WideElems.Trod_stays hl ht.1.1 ht.1.2 h1 (fun z hz => hs z (hps z (List.mem_append_left _ hz))) (fun z hz => hsp z (List.mem_append_left _ hz)))
      (ih vs1 ds1 q ht.2 h2 (fun z hz => hps z (List.mem_append_right _ hz)) sp (fun z hz => hsp z (List.mem_append_right _ hz)))

/-- A LAW's END: it answered true, and nothing that was there has turned. -/
theorem law_post {H : Type} {enc : TypeId × Value → H} {P : Program} {f : Func} {s : ChangeSpec} {apart fresh handsOn again : Bool} {W W' : World} {args : Array Value} {ds gs : List (DataW H)} {before : List MemPlace} {tb : TypeId}
    (hW : DataW.Whole enc P f.params.toList s.vars apart W args.toList ds gs before) (hvars : s.vars = []) (hb : Below W.heap.size W W') (hl : laidOutB P = true)
    (hr : (f.params.toList.all fun t => P.readableRec t && decide (t < P.types.size)) = true) (ht : f.resultTypes = #[tb]) (hu : P.underlying tb = some .bool)
    (hfn : s.fn H (ds ++ gs) = { results := [.lit (.bool true)], args := ds }) : s.post enc P f apart fresh handsOn again W args (.bool true) W' := by
  have hlt := hW.lt
  have hW0 := hW
  obtain ⟨p, q, hA, hV, rfl, hfz, hnd⟩ := hW
  have hA' : ∀ sp : Nat → Bool, (∀ z ∈ p ++ q, sp z.block = true) → DataW.TrodAll enc P W' 0 sp true f.params.toList args.toList ds p := fun sp hsp =>
    trodAll_stays hl (fun z hz => hb.same hz) _ _ _ _ hr hA (fun z hz => hlt z (List.mem_append_left _ hz)) sp (fun z hz => hsp z (List.mem_append_left _ hz))
  have hV' : q = [] ∧ ∀ sp : Nat → Bool, DataW.TrodVars enc P W' sp s.vars [] [] := by
    rw [hvars] at hV ⊢
    obtain ⟨_, h2⟩ := trodVars_none hV
    exact ⟨h2, fun sp => rfl⟩
  obtain ⟨rfl, hV'⟩ := hV'
  have hres : ∀ (b : Nat) (sp : Nat → Bool) (hd : Bool), DataW.TrodAll enc P W' b sp hd f.resultTypes.toList ((Value.bool true).resultList f.resultTypes.size) [.lit (.bool true)] [] := by
    intro b sp hd
    rw [ht]
    exact trodAll_cons_mk (shut_bool hu _) trodAll_mk0
  refine ⟨ds, gs, p ++ [], [], p, [], hW0, ?_, ?_, ?_, hb.frame _, fun _ => ⟨ok_one ht rfl (okWide_bool_mk hu _), _, _, ([] ++ p) ++ [], ⟨[] ++ p, [], trodAll_append (hA' _ (fun _ _ => rfl)) (hres _ _ _), hV' _, rfl, ?_, ?_⟩, ?_⟩⟩
  · rw [hfn]; exact hres _ _ _
  · rw [hfn]; exact hA' _ (fun z hz => by simpa using hlt z hz)
  · rw [hfn]; exact hV' _
  · intro b off hp
    have hp' : MemPlace.cell b off ∈ p ++ [] := by simpa using hp
    have := hlt _ hp'
    rw [hb.frozen (p := ⟨b, off, none⟩) this]
    exact hfz b off hp'
  · intro ha
    have := hnd ha
    simpa using this
  · intro z hz _
    simpa using hz

/-- THE ROW's CONTRACT, from the law's own word: 'Meets' at its shapes' values gives true. -/
theorem law_contract {H : Type} {enc : TypeId × Value → H} {P : Program} {n k : Nat} {f : Func} {s : ChangeSpec} {sh : Sh} {apart fresh handsOn again : Bool} {tb : TypeId} {W : World} {base : Nat} {args : Array Value} {ds gs : List (DataW H)} {before : List MemPlace}
    {st : Bool} (hmeets : ∀ x : sh.den, sh.wf x → Meets P n (sh.vals x) (.bool st true)) (hsh : shAll P (k + 1) f.params.toList = some sh)
    (hvars : s.vars = []) (hl : laidOutB P = true) (hr : (f.params.toList.all fun t => P.readableRec t && decide (t < P.types.size)) = true) (ht : f.resultTypes = #[tb]) (hu : P.underlying tb = some .bool)
    (hfn : ∀ ds : List (DataW H), ds.length = f.params.toList.length → s.fn H ds = { results := [.lit (.bool true)], args := ds })
    (hgl : GOk (fun B => B < W.heap.size) W)
    (hval : ∀ (j : Nat) t v, f.params[j]? = some t → args[j]? = some v → Value.okWide P W .any base t v)
    (hW : DataW.Whole enc P f.params.toList s.vars apart W args.toList ds gs before) :
    Calls P n args W fun e W' => ∃ v, e = .returned v ∧ s.post enc P f apart fresh handsOn again W args v W' := by
  have hlt := hW.lt
  have hW0 := hW
  obtain ⟨p, q, hA, hV, rfl, hfz, hnd⟩ := hW
  have hg : gs = [] := by rw [hvars] at hV; exact (trodVars_none hV).1
  obtain ⟨x, hx, hwf⟩ := sh_all (F := fun B => B < W.heap.size) (k := k) (b0 := base) (r := .any) f.params.toList sh args.toList ds p hsh hA
    (fun j t v h1 h2 => hval j t v (by simpa using h1) (by simpa using h2)) (fun z hz => hlt z (List.mem_append_left _ hz))
  refine ((hmeets x hwf).2 (fun B => B < W.heap.size) W args (fun _ h => h) hgl hx).mono fun e W' ⟨v, F', he, hlat, hR⟩ => ?_
  subst he
  simp only [R] at hR
  subst hR
  refine ⟨_, rfl, law_post hW0 hvars ⟨hlat.calm.os, hlat.calm.tape, hlat.calm.output, hlat.size, hlat.keep⟩ hl hr ht hu ?_⟩
  subst hg
  rw [List.append_nil]
  refine hfn ds ?_
  have : ∀ (ts : List TypeId) (vs : List Value) (ds : List (DataW H)) (p : List MemPlace), DataW.TrodAll enc P W 0 (fun _ => true) true ts vs ds p → ds.length = ts.length := by
    intro ts
    induction ts with
    | nil => intro vs ds p h; obtain ⟨_, rfl, _⟩ := trodAll_nil h; rfl
    | cons t ts ih =>
      intro vs ds p h
      obtain ⟨_, vs1, _, ds1, _, q, rfl, rfl, rfl, _, h2⟩ := trodAll_cons h
      simp [ih vs1 ds1 q h2]
  exact this _ _ _ _ hA
end Go.Fw
