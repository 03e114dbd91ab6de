/- Clock: Parse: its loop's states. Clock, Parse's zeros: a round of the loop, as the evaluator has it. Clock: strings.Cut at a point; Parse's zeros. Clock: Parse, as the evaluator has it. Clock: Parse at every text, as a contract. -/
import Derived.Test.YtpeekgekmjldlaaDoorTyA
import Derived.Test.YtpeekgekmjldlaaDoorGwY
namespace Go.Proofs.YtpeekgekmjldlaaDoor
open Go.Fw
set_option maxRecDepth 100000
theorem ixb_in (c : UInt8) : ∀ (l : List UInt8) (i : Int), ixb c l i = -1 ∨ (i ≤ ixb c l i ∧ ixb c l i < i + l.length) := by
  intro l
  induction l with
  | nil => intro i; exact .inl rfl
  | cons b l ih =>
    intro i
    unfold ixb
    cases Nat.beq b.toNat c.toNat
    · rcases ih (i + 1) with h | h
      · exact .inl h
      · refine .inr ?_
        simp only [List.length_cons, cond_false]
        omega
    · refine .inr ?_
      simp only [List.length_cons, cond_true]
      omega
/-- The search for a sign. -/
def c_idy : Con := { g := 111, al := true, ans := fun x => match x with
  | .cons (.str st s) (.cons (.str true [c]) .nil) => some (.sure (.int st .i64 (ixb c s 0)))
  | _ => none }
theorem c_idy_ok : c_idy.Ok P := by
  intro x
  dsimp only [c_idy]
  split
  · rename_i h
    split at h
    · rename_i st s c
      injection h with h; injection h with h; subst h
      refine ⟨Has.of hn Tryd.func111 rfl, fun F w xs _ _ ha => ?_⟩
      simp only [RL, R] at ha
      obtain ⟨_, _, h1, rfl, _, _, rfl, rfl, rfl⟩ := ha
      have hx : xs = #[.string ⟨s.toArray⟩, .string ⟨#[c]⟩] := Array.toList_inj.1 h1
      subst hx
      refine (Tryd.stringslite_Index_one ⟨s.toArray⟩ c w).mono fun e w' he => ?_
      obtain ⟨rfl, rfl⟩ := he
      refine ⟨_, F, rfl, Later.refl F w', ?_⟩
      simp only [R]
      rw [ixb_eq]
      congr 1
      split
      · rename_i h; exact h
      · show _ = 0 + Lib.indexByte s c
        omega
    · cases h
  · rename_i h
    split at h <;> cases h
  · trivial
abbrev kPd (s a r : List UInt8) (c i : Int) : V := .cons (.str false s) (.cons (.str false a) (.cons (.str false r) (.cons (.int false .i64 c) (.cons (.int false .i64 i) .nil))))
/-- Zeros behind what stands behind the point. -/
noncomputable def lpPd : Lp := ⟨46, 5, fun _ s => match vw 0 52 [0,4,5,22,23] [] s with
  | (true, .cons (.str _ t) (.cons (.str _ a) (.cons (.str _ r) (.cons (.int _ .i64 c) (.cons (.int _ .i64 i) .nil)))), .nil) =>
    bif Nat.beq s.n 0 then .need (i = 0 ∧ 0 ≤ c ∧ c ≤ 9 ∧ r.length ≤ 1000) (.leaf (.exit 0, canon 0 52 [0,4,5,22,23] [] (kPd t a (r ++ List.replicate c.toNat 48) c c) .nil)) else .stuck
  | _ => .stuck⟩
end Go.Proofs.YtpeekgekmjldlaaDoor
namespace Go.Proofs.YtpeekgekmjldlaaDoor
open Go.Fw
set_option maxRecDepth 100000
set_option linter.unusedVariables false
theorem pd_body (B : Base) (t a r : List UInt8) (c i : Int) : ((ev (en [] []) 400 46 (loopAt P 46 5) B (canon 0 52 [0,4,5,22,23] [] (kPd t a r c i) .nil)).bind fun x => Tree.leaf (x.1, vw 0 52 [0,4,5,22,23] [] x.2)) =
    Tree.node (bif decide (i < c) then false else true) (Tree.leaf (Ex.exit (0 : Nat), true, V.cons (V.str false t) (V.cons (V.str false a) (V.cons (V.str false r) (V.cons (V.int
    false IntKind.i64 c) (V.cons (V.int false IntKind.i64 i) V.nil)))), V.nil)) (Tree.need (List.length r + List.length [(48 : UInt8)] ≤ (9223372036854775807 : Nat)) (Tree.leaf
    (Ex.normal, true, V.cons (V.str false t) (V.cons (V.str false a) (V.cons (V.str false (r ++ [(48 : UInt8)])) (V.cons (V.int false IntKind.i64 c) (V.cons (V.int false
    IntKind.i64 (IntKind.wrap IntKind.i64 (i + (1 : Int)))) V.nil)))), V.nil))) := by kernel_rfl
end Go.Proofs.YtpeekgekmjldlaaDoor
namespace Go.Proofs.YtpeekgekmjldlaaDoor
open Go.Fw
set_option maxRecDepth 100000
set_option linter.unusedVariables false
theorem cut_tree (s : List UInt8) : evFn (en [c_idy] []) 400 74 (.cons (.str false s) (.cons (.str true [46]) .nil)) =
    Tree.need (decide (ixb (46 : UInt8) s (0 : Int) ≥ (0 : Int)) = true → ((0 : Int) ≤ ixb (46 : UInt8) s (0 : Int) ∧ ixb (46 : UInt8) s (0 : Int) ≤ ((List.length s : Nat) : Int))
    ∧ (0 : Int) ≤ IntKind.wrap IntKind.i64 (ixb (46 : UInt8) s (0 : Int) + Int.ofNat (nat_lit 0 + (1 : Nat))) ∧ IntKind.wrap IntKind.i64 (ixb (46 : UInt8) s (0 : Int) + Int.ofNat
    (nat_lit 0 + (1 : Nat))) ≤ ((List.length s : Nat) : Int)) (Tree.node (bif decide (ixb (46 : UInt8) s (0 : Int) ≥ (0 : Int)) then true else false) (Tree.leaf (V.tup (V.cons
    (V.str false (List.take (Int.toNat (ixb (46 : UInt8) s (0 : Int)) - (0 : Nat)) (List.drop (0 : Nat) s))) (V.cons (V.str false (List.take (List.length s - Int.toNat
    (IntKind.wrap IntKind.i64 (ixb (46 : UInt8) s (0 : Int) + Int.ofNat (nat_lit 0 + (1 : Nat))))) (List.drop (Int.toNat (IntKind.wrap IntKind.i64 (ixb (46 : UInt8) s (0 : Int) +
    Int.ofNat (nat_lit 0 + (1 : Nat))))) s))) (V.cons (V.bool true true) V.nil))))) (Tree.leaf (V.tup (V.cons (V.str false s) (V.cons (V.str true []) (V.cons (V.bool true false)
    V.nil)))))) := by kernel_rfl

theorem cut_hold (s : List UInt8) (hs : s.length ≤ 1000) : Tree.Hold P (evFn (en [c_idy] []) 400 74 (.cons (.str false s) (.cons (.str true [46]) .nil))) fun r => r.soft.clean = true ∧ r.soft = (V.tup (.cons (.str false (preP s)) (.cons (.str false (sufP s)) (.cons (.bool false (decide (ixb 46 s 0 ≥ 0))) .nil)))).soft := by
  constructor
  rw [cut_tree]
  unfold preP sufP
  have hx := ixb_in 46 s 0
  generalize ixb 46 s 0 = k at hx
  by_cases hk : k ≥ 0
  · have hw : IntKind.wrap IntKind.i64 (k + Int.ofNat (nat_lit 0 + (1 : Nat))) = k + 1 := IntWalk.i64_in (k + 1) ⟨by omega, by omega⟩
    have e2 : List.take (s.length - (k + 1).toNat) (List.drop (k + 1).toNat s) = s.drop (k.toNat + 1) := by
      have e : (k + 1).toNat = k.toNat + 1 := by omega
      rw [e, List.take_of_length_le (by rw [List.length_drop]; exact Nat.le_refl _)]
    rw [hw, decide_eq_true hk, e2]
    exact ⟨fun _ => ⟨⟨by omega, by omega⟩, by omega, by omega⟩, fun _ => ⟨rfl, rfl⟩, fun h => (by cases h)⟩
  · rw [decide_eq_false hk]
    exact ⟨fun h => (by cases h), fun h => (by cases h), fun _ => ⟨rfl, rfl⟩⟩
theorem cut_meets (s : List UInt8) (hs : s.length ≤ 1000) : Meets P 74 (.cons (.str false s) (.cons (.str true [46]) .nil)) (V.tup (.cons (.str false (preP s)) (.cons (.str false (sufP s)) (.cons (.bool false (decide (ixb 46 s 0 ≥ 0))) .nil)))) :=
  meets_held (en_okl (l := [c_idy]) ⟨c_idy_ok, trivial⟩ (ls := []) trivial) 400 (Has.of hn Tryd.func74 rfl) (cut_hold s hs)
def c_cut : Con := { g := 74, ans := fun x => match x with
  | .cons (.str _ s) (.cons (.str _ z) .nil) => some (.where_ (z = [46] ∧ s.length ≤ 1000) (V.tup (.cons (.str false (preP s)) (.cons (.str false (sufP s)) (.cons (.bool false (decide (ixb 46 s 0 ≥ 0))) .nil)))))
  | _ => none }
theorem c_cut_ok : c_cut.Ok P := by
  intro x
  dsimp only [c_cut]
  split
  · rename_i v h
    split at h <;> cases h
  · rename_i p v h
    split at h
    · rename_i st s st' z
      injection h with h; injection h with h1 h2; subst h1; subst h2
      rintro ⟨rfl, hs⟩
      exact Meets.of_soft (args := .cons (.str st s) (.cons (.str st' [46]) .nil)) (Meets.hard (cut_meets s hs))
    · cases h
  · trivial
theorem lpPd_ok : lpPd.Ok P := by
  refine lp_ok (by kernel_rfl) fun hin B s Q hq => ?_
  simp only [lpPd] at hq hin ⊢
  split at hq
  · rename_i q0 t q1 a q2 r q3 c q4 i heq
    cases hn : Nat.beq s.n 0
    · rw [hn] at hq; exact hq.elim
    · rw [hn] at hq
      obtain ⟨⟨rfl, h0, h9, hl⟩, hq⟩ := hq
      have hsame : Same 0 52 [0,4,5,22,23] [] s (kPd t a (r ++ List.replicate 0 48) c (0 : Nat)) .nil := by
        rw [List.replicate_zero, List.append_nil]
        refine ⟨by rw [heq], by rw [heq]; rfl, by rw [heq]⟩
      refine loop_view (k := 400) (f := 46) (en_okl (l := []) trivial (ls := []) trivial) hin (fun i : Nat => kPd t a (r ++ List.replicate i 48) c i) (fun _ => .nil) (fun i => (i : Int) ≤ c) (fun i => 9 - i) Q (fun i => pd_body B t a (r ++ List.replicate i 48) c i) ?_ (Nat.eq_of_beq_eq_true hn) (i0 := 0) (by omega) hsame
      intro j hj
      refine ⟨fun hx => ?_, fun hx => ⟨?_, ?_⟩⟩
      · have hge : ¬ (j : Int) < c := fun h => by rw [decide_eq_true h] at hx; cases hx
        have e : c = (j : Int) := by omega
        subst e
        rw [Int.toNat_natCast] at hq
        exact ⟨rfl, _, _, rfl, rfl, hq⟩
      · show _ + 1 ≤ _
        rw [List.length_append, List.length_replicate]
        omega
      · have hlt : (j : Int) < c := by apply Classical.byContradiction; intro h; rw [decide_eq_false h] at hx; cases hx
        have hw : IntKind.wrap IntKind.i64 ((j : Int) + 1) = ((j + 1 : Nat) : Int) := by rw [IntWalk.i64_in _ ⟨by omega, by omega⟩]; omega
        rw [hw, List.append_assoc, ← List.replicate_succ']
        exact ⟨rfl, j + 1, by omega, by omega, rfl, rfl⟩
  · exact hq.elim
end Go.Proofs.YtpeekgekmjldlaaDoor
namespace Go.Proofs.YtpeekgekmjldlaaDoor
open Go.Fw
set_option maxRecDepth 100000
set_option linter.unusedVariables false
theorem cparse_tree (t : List UInt8) : evFn (en [c_cut, c_pint, c_ctext] [lpPd]) 400 46 (.cons (.str false t) .nil) =
    Tree.need ([(46 : UInt8)] = [(46 : UInt8)] ∧ List.length t ≤ (1000 : Nat)) (Tree.node (bif decide (((List.length (sufP t) : Nat) : Int) > (9 : Int)) then true else false)
    (Tree.leaf (V.tup (V.cons (V.int true IntKind.i64 (0 : Int)) (V.cons (V.int true IntKind.i64 (2 : Int)) V.nil)))) (Tree.need ((0 : Int) = (0 : Int) ∧ (0 : Int) ≤ IntKind.wrap
    IntKind.i64 ((9 : Int) - ((List.length (sufP t) : Nat) : Int)) ∧ IntKind.wrap IntKind.i64 ((9 : Int) - ((List.length (sufP t) : Nat) : Int)) ≤ (9 : Int) ∧ List.length (sufP t)
    ≤ (1000 : Nat)) (Tree.need (List.length (preP t) + List.length (sufP t ++ List.replicate (Int.toNat (IntKind.wrap IntKind.i64 ((9 : Int) - ((List.length (sufP t) : Nat) :
    Int)))) (48 : UInt8)) ≤ (9223372036854775807 : Nat)) (Tree.need ((10 : Int) = (10 : Int) ∧ (64 : Int) = (64 : Int) ∧ List.length (preP t ++ (sufP t ++ List.replicate (Int.toNat
    (IntKind.wrap IntKind.i64 ((9 : Int) - ((List.length (sufP t) : Nat) : Int)))) (48 : UInt8))) ≤ (281474976710656 : Nat)) (Tree.node (bif bif bif false then pintB (preP t ++
    (sufP t ++ List.replicate (Int.toNat (IntKind.wrap IntKind.i64 ((9 : Int) - ((List.length (sufP t) : Nat) : Int)))) (48 : UInt8))) else !pintB (preP t ++ (sufP t ++
    List.replicate (Int.toNat (IntKind.wrap IntKind.i64 ((9 : Int) - ((List.length (sufP t) : Nat) : Int)))) (48 : UInt8))) then true else bif ctE (pintV (preP t ++ (sufP t ++
    List.replicate (Int.toNat (IntKind.wrap IntKind.i64 ((9 : Int) - ((List.length (sufP t) : Nat) : Int)))) (48 : UInt8)))) != (0 : Int) then true else !ctS (pintV (preP t ++
    (sufP t ++ List.replicate (Int.toNat (IntKind.wrap IntKind.i64 ((9 : Int) - ((List.length (sufP t) : Nat) : Int)))) (48 : UInt8)))) == t then true else false) (Tree.leaf (V.tup
    (V.cons (V.int true IntKind.i64 (0 : Int)) (V.cons (V.int true IntKind.i64 (2 : Int)) V.nil)))) (Tree.leaf (V.tup (V.cons (V.int false IntKind.i64 (pintV (preP t ++ (sufP t ++
    List.replicate (Int.toNat (IntKind.wrap IntKind.i64 ((9 : Int) - ((List.length (sufP t) : Nat) : Int)))) (48 : UInt8))))) (V.cons (V.int true IntKind.i64 (0 : Int))
    V.nil))))))))) := by kernel_rfl
end Go.Proofs.YtpeekgekmjldlaaDoor
namespace Go.Proofs.YtpeekgekmjldlaaDoor
open Go.Fw
set_option maxRecDepth 100000
set_option linter.unusedVariables false
def cpV (t : List UInt8) : Int := bif rtB t then rtV t else 0
def cpE (t : List UInt8) : Int := bif rtB t then 0 else 2
theorem pint_of {s : List UInt8} {n : Nat} (h : Lib.parseIntB 64 s = .ok (n : Int)) : pintB s = true ∧ pintV s = (n : Int) := by
  unfold pintB pintV
  rw [h]
  exact ⟨rfl, rfl⟩
theorem pre_suf_short (t : List UInt8) (ht : t.length ≤ 1000) : (preP t).length ≤ 1000 ∧ (sufP t).length ≤ 1000 := by
  unfold preP sufP
  cases decide (ixb 46 t 0 ≥ 0)
  · exact ⟨ht, by rw [cond_false, List.length_nil]; omega⟩
  · exact ⟨by rw [cond_true, List.length_take]; omega, by rw [cond_true, List.length_drop]; omega⟩
theorem ct_eq {v : Int} {t : List UInt8} (h0 : ctE v = 0) (h : ctS v = t) : rtB t = true := by
  unfold ctE ctS at *
  by_cases hv : 0 ≤ v ∧ v ≤ 1125899906842624
  · rw [decide_eq_true hv] at h
    exact rtB_of v.toNat (by unfold isT; omega) t h
  · rw [decide_eq_false hv] at h0; cases h0
theorem ct_is (n : Nat) (h : isT n) : ctE (n : Int) = 0 ∧ ctS (n : Int) = tmT n := by
  unfold isT at h
  unfold ctE ctS
  rw [decide_eq_true (by omega), Int.toNat_natCast]
  exact ⟨rfl, rfl⟩
theorem cparse_hold (t : List UInt8) (ht : t.length ≤ 1000) : Tree.Hold P (evFn (en [c_cut, c_pint, c_ctext] [lpPd]) 400 46 (.cons (.str false t) .nil)) fun r => r.soft.clean = true ∧ r.soft = (V.tup (.cons (.int false .i64 (cpV t)) (.cons (.int false .i64 (cpE t)) .nil))).soft := by
  constructor
  rw [cparse_tree]
  obtain ⟨hp, hs⟩ := pre_suf_short t ht
  refine ⟨⟨rfl, ht⟩, fun hc => ⟨rfl, ?_⟩, fun hc => ?_⟩
  · have hno : rtB t = false := by
      cases hb : rtB t
      · rfl
      · obtain ⟨n, h1, rfl, _⟩ := rtB_true t hb
        have h9 := (padP_tmT n h1).1
        rw [decide_eq_false (by omega)] at hc
        cases hc
    unfold cpV cpE
    rw [hno]; rfl
  · have h9 : (sufP t).length ≤ 9 := by
      apply Classical.byContradiction; intro h
      rw [decide_eq_true (by omega)] at hc; cases hc
    have hw : IntKind.wrap IntKind.i64 ((9 : Int) - ((List.length (sufP t) : Nat) : Int)) = ((9 - (sufP t).length : Nat) : Int) := by
      rw [IntWalk.i64_in _ ⟨by omega, by omega⟩]; omega
    rw [hw, Int.toNat_natCast]
    have e : preP t ++ (sufP t ++ List.replicate (9 - (sufP t).length) 48) = padP t := rfl
    rw [e]
    have hl1 : (sufP t ++ List.replicate (9 - (sufP t).length) 48).length ≤ 1009 := by rw [List.length_append, List.length_replicate]; omega
    have hl2 : (padP t).length ≤ 2009 := by rw [← e, List.length_append]; omega
    refine ⟨⟨rfl, by omega, by omega, by omega⟩, by omega, ⟨rfl, rfl, by omega⟩, ?_⟩
    cases hb : rtB t
    · refine ⟨fun _ => ⟨rfl, by unfold cpV cpE; rw [hb]; rfl⟩, fun h => ?_⟩
      exfalso
      generalize pintV (padP t) = v at h
      cases hpi : pintB (padP t)
      · rw [hpi] at h; cases h
      · rw [hpi] at h
        by_cases he : ctE v = 0
        · have e1 : (ctE v != 0) = false := by rw [he]; rfl
          rw [e1] at h
          cases hs2 : (ctS v == t)
          · rw [hs2] at h; cases h
          · have := ct_eq he (eq_of_beq hs2)
            rw [hb] at this; cases this
        · have e1 : (ctE v != 0) = true := by simpa using he
          rw [e1] at h; cases h
    · obtain ⟨n, h1, h2, h3⟩ := rtB_true t hb
      obtain ⟨e1, e2⟩ := pint_of (pad_val n h1)
      obtain ⟨e3, e4⟩ := ct_is n h1
      rw [h2] at e1 e2 e4
      have e5 : (t == t) = true := beq_self_eq_true _
      rw [e1, e2, e3, e4, e5]
      refine ⟨fun h => (by cases h), fun _ => ⟨rfl, ?_⟩⟩
      unfold cpV cpE
      rw [hb, h3]; rfl
theorem cparse_meets (t : List UInt8) (ht : t.length ≤ 1000) : Meets P 46 (.cons (.str false t) .nil) (.tup (.cons (.int false .i64 (cpV t)) (.cons (.int false .i64 (cpE t)) .nil))) :=
  meets_held (en_okl (l := [c_cut, c_pint, c_ctext]) ⟨c_cut_ok, c_pint_ok, c_ctext_ok, trivial⟩ (ls := [lpPd]) ⟨lpPd_ok, trivial⟩) 400 (Has.of hn Tryd.func46 rfl) (cparse_hold t ht)
def c_cparse : Con := { g := 46, ans := fun x => match x with
  | .cons (.str _ t) .nil => some (.where_ (t.length ≤ 1000) (.tup (.cons (.int false .i64 (cpV t)) (.cons (.int false .i64 (cpE t)) .nil))))
  | _ => none }
theorem c_cparse_ok : c_cparse.Ok P := by
  intro x
  dsimp only [c_cparse]
  split
  · rename_i v h
    split at h <;> cases h
  · rename_i p v h
    split at h
    · rename_i st t
      injection h with h; injection h with h1 h2; subst h1; subst h2
      exact fun hp => Meets.of_soft (args := .cons (.str st t) .nil) (cparse_meets t hp)
    · cases h
  · trivial
/-! ### The document's reading: its loops' states -/
abbrev kRp (s : List UInt8) (v : Int) (b : Bool) (w r : Int) (p : Bool) (a n i : Int) : V :=
  .cons (.str false s) (.cons (.int false .i64 v) (.cons (.bool false b) (.cons (.int false .i64 w) (.cons (.int false .i64 r) (.cons (.bool false p) (.cons (.int false .i64 a) (.cons (.int false .i64 n) (.cons (.int false .i64 i) .nil))))))))
abbrev kRz (s : List UInt8) (w r a : Int) : V := .cons (.str false s) (.cons (.int false .i64 w) (.cons (.int false .i64 r) (.cons (.int false .i64 a) .nil)))
/-- Within bounds. -/
def rIn (w r a : Int) : Prop := (0 ≤ w ∧ w ≤ 1125899906842640) ∧ (0 ≤ a ∧ a ≤ 9) ∧ 0 ≤ r ∧ r < 10 ^ a.toNat
noncomputable def lpRp : Lp := ⟨47, 6, fun _ s => match vw 0 89 [0,2,3,4,5,6,7,15,16] [] s with
  | (true, .cons (.str _ t) (.cons (.int _ .i64 v) (.cons (.bool _ b) (.cons (.int _ .i64 w) (.cons (.int _ .i64 r) (.cons (.bool _ p) (.cons (.int _ .i64 a) (.cons (.int _ .i64 n) (.cons (.int _ .i64 i) .nil)))))))), .nil) =>
    bif Nat.beq s.n 0 then .need ((v = 0 ∧ b = false ∧ w = 0 ∧ r = 0 ∧ p = false ∧ a = 0 ∧ i = 0) ∧ n = t.length ∧ t.length ≤ 20) (.all Int fun w' => .all Int fun r' => .all Bool fun p' => .all Int fun a' => .all Int fun i' => .all Bool fun c => .node c
      (.given (rp t 0 0 false 0 = some (w', r', p', a') ∧ rIn w' r' a') (.leaf (.exit 0, canon 0 89 [0,2,3,4,5,6,7,15,16] [] (kRp t 0 false w' r' p' a' n i') .nil)))
      (.given (rp t 0 0 false 0 = none) (.leaf (.ret, canon 0 89 [0,2,3,4,5,6,7,15,16] [] (kRp t 0 false w' r' p' a' n i') .nil)))) else .stuck
  | _ => .stuck⟩
noncomputable def lpRz : Lp := ⟨47, 17, fun _ s => match vw 0 89 [0,4,5,7] [] s with
  | (true, .cons (.str _ t) (.cons (.int _ .i64 w) (.cons (.int _ .i64 r) (.cons (.int _ .i64 a) .nil))), .nil) =>
    bif Nat.beq s.n 0 then .need (rIn w r a) (.leaf (.exit 3, canon 0 89 [0,4,5,7] [] (kRz t w (r * 10 ^ (9 - a).toNat) 9) .nil)) else .stuck
  | _ => .stuck⟩
end Go.Proofs.YtpeekgekmjldlaaDoor
