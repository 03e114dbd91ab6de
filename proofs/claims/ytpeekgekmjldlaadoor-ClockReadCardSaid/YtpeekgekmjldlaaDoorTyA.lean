/- Clock: strconv's and strings' functions that its texts lean on, as contracts. Clock: Text at every time, as a contract. Clock: the document's Text: its first loop's states. Clock, the document's Text: a round of the loop, as the evaluator has it. Clock: the document's Text, at every time. -/
import Derived.Test.YtpeekgekmjldlaaDoorTmP
import Derived.WalkSmall
import Derived.Test.YtpeekgekmjldlaaDoorGwAb
namespace Go.Proofs.YtpeekgekmjldlaaDoor
open Go.Fw Go.RowKit
set_option maxRecDepth 100000
set_option linter.unusedVariables false
theorem tabRow_inv {F : Nat → Prop} {w : World} {n : Nat} {m : Nat → Option Nat} (k : IntKind) : ∀ (zs : List Int) (xs : List Value), RL F w (tabRow k zs) n m xs → xs = zs.map (Value.int k) := by
  intro zs
  induction zs with
  | nil => intro xs hx; simp only [tabRow, RL] at hx; exact hx
  | cons z zs ih =>
    intro xs hx
    simp only [tabRow, RL, R] at hx
    obtain ⟨x, r, rfl, rfl, h6⟩ := hx
    rw [ih r h6]; rfl
theorem glob_tab {F : Nat → Prop} {w : World} {g n : Nat} {k : IntKind} {zs : List Int} {name : String} (hname : P.globalNamed name = some g) (hn : zs.length = n) (hg : glob g = some (.rptr true n 1 (fun _ => tabRow k zs) 0 0)) (h : GOk F w) : Lib.TabIs P w name k zs := by
  obtain ⟨_, h1, h2⟩ := h g _ hg
  obtain ⟨_, c, el, fr, hc, hsz⟩ := h2
  rw [R_rptr] at h1
  obtain ⟨_, B, off, hp, _, c', el', fr', hc', hr⟩ := h1
  injection hp with hp
  injection hp with hp
  injection hp with h3 h4 h5
  subst h3
  rw [hc] at hc'
  injection hc' with hc'
  injection hc' with e1 e2 e3
  subst e1
  have hoff : off = 0 := by have : 0 = off + 0 * n + 0 := h4; omega
  subst hoff
  obtain ⟨xs, hx, hl, hq⟩ := hr 0 (by omega)
  have hxs : xs = zs.map (Value.int k) := tabRow_inv k zs xs hx
  unfold Lib.TabIs World.var?
  rw [hname]
  simp only [Option.bind_some, hc]
  congr 1
  apply Array.ext_getElem?
  intro q
  by_cases hqn : q < n
  · have := hq q hqn
    simp only [Nat.zero_mul, Nat.zero_add] at this
    rw [this, hxs]
    simp
  · rw [Array.getElem?_eq_none (by omega), Array.getElem?_eq_none (by simp; omega)]
/-- strconv.FormatInt at base 10. -/
def c_fmt : Con := { g := 72, ans := fun x => match x with
  | .cons (.int _ .i64 n) (.cons (.int _ .i64 b) .nil) => some (.where_ (b = 10 ∧ -9223372036854775808 ≤ n ∧ n ≤ 9223372036854775807) (.str false (Lib.itoa n)))
  | _ => none }
theorem c_fmt_ok : c_fmt.Ok P := by
  intro x
  dsimp only [c_fmt]
  split
  · rename_i v h
    split at h <;> cases h
  · rename_i p v h
    split at h
    · rename_i st n st' b
      injection h with h; injection h with h1 h2; subst h1; subst h2
      rintro ⟨rfl, hp1, hp2⟩
      refine ⟨Has.of hn Tryd.func72 rfl, fun F w xs _ hgl ha => ?_⟩
      simp only [RL, R] at ha
      obtain ⟨_, _, h1, rfl, _, _, rfl, rfl, rfl⟩ := ha
      have hx : xs = #[.int .i64 n, .int .i64 10] := Array.toList_inj.1 h1
      subst hx
      refine (Tryd.strconv_FormatInt_10 n hp1 hp2 w (glob_tab (g := 1) (n := 20) (zs := tab1) (by kernel_rfl) rfl rfl hgl)).mono fun e w' he => ?_
      obtain ⟨rfl, k, os, rfl⟩ := he
      refine ⟨_, F, rfl, later_of_below ?_, by simp only [R]⟩
      exact (below_drewN (Below.refl _ _) k).trans ⟨rfl, rfl, rfl, by simp [Sort.grow], fun B hB => by simp only [Sort.grow]; rw [Array.getElem?_append_left (by exact hB)]⟩
    · cases h
  · trivial
/-- strings.TrimRight of one sign. -/
def c_trim : Con := { g := 73, ans := fun x => match x with
  | .cons (.str _ s) (.cons (.str _ z) .nil) => some (.where_ (z = [48] ∧ s.length ≤ 1000) (.str false (Lib.trimRightB s 48)))
  | _ => none }
theorem c_trim_ok : c_trim.Ok P := by
  intro x
  dsimp only [c_trim]
  split
  · rename_i v h
    split at h <;> cases h
  · rename_i p v h
    split at h
    · rename_i st s st' z
      injection h with h; injection h with h1 h2; subst h1; subst h2
      rintro ⟨rfl, hp⟩
      refine ⟨Has.of hn Tryd.func73 rfl, fun F w xs _ hgl ha => ?_⟩
      simp only [RL, R] at ha
      obtain ⟨_, _, h1, rfl, _, _, rfl, rfl, rfl⟩ := ha
      have hx : xs = #[.string ⟨s.toArray⟩, .string ⟨#[48]⟩] := Array.toList_inj.1 h1
      subst hx
      refine (Tryd.strings_TrimRight_one ⟨s.toArray⟩ 48 (by decide) w (by show s.length ≤ _; omega)).mono fun e w' he => ?_
      obtain ⟨rfl, rfl⟩ := he
      exact ⟨_, F, rfl, Later.refl F w', by simp only [R]⟩
    · cases h
  · trivial
/-- strconv.ParseInt at base 10, of 64 bits. -/
def pintB (s : List UInt8) : Bool :=
  match Lib.parseIntB 64 s with
  | .ok _ => true
  | _ => false
def pintV (s : List UInt8) : Int :=
  match Lib.parseIntB 64 s with
  | .ok v => v
  | .range => Lib.intSat 64 s
  | _ => 0
def c_pint : Con := { g := 75, ans := fun x => match x with
  | .cons (.str _ s) (.cons (.int _ .i64 b) (.cons (.int _ .i64 z) .nil)) => some (.where_ (b = 10 ∧ z = 64 ∧ s.length ≤ 281474976710656) (.tup (.cons (.int false .i64 (pintV s)) (.cons (.ifc false (pintB s)) .nil))))
  | _ => none }
theorem c_pint_ok : c_pint.Ok P := by
  intro x
  dsimp only [c_pint]
  split
  · rename_i v h
    split at h <;> cases h
  · rename_i p v h
    split at h
    · rename_i st s st' b st2 z
      injection h with h; injection h with h1 h2; subst h1; subst h2
      rintro ⟨rfl, rfl, hp⟩
      refine ⟨Has.of hn Tryd.func75 rfl, fun F w xs _ hgl ha => ?_⟩
      simp only [RL, R] at ha
      obtain ⟨_, _, h1, rfl, _, _, rfl, rfl, _, _, rfl, rfl, rfl⟩ := ha
      have hx : xs = #[.string ⟨s.toArray⟩, .int .i64 10, .int .i64 64] := Array.toList_inj.1 h1
      subst hx
      have hsz : (⟨s.toArray⟩ : ByteArray).size ≤ 281474976710656 := hp
      obtain ⟨t3, p3, h3⟩ := err_cell (g := 3) rfl hgl
      obtain ⟨t4, p4, h4⟩ := err_cell (g := 4) rfl hgl
      cases hA : Lib.parseIntB 64 s with
      | ok v =>
        refine (Tryd.strconv_ParseInt_10_at64_ok ⟨s.toArray⟩ (by omega) v hA w).mono fun e w' he => ?_
        obtain ⟨rfl, hw⟩ := he
        refine ⟨_, F, rfl, later_of_below (by rcases hw with rfl | ⟨t, rfl⟩; exact Below.refl _ _; exact Lib.bytesWorld_below _ _ _), ?_⟩
        have e1 : pintV s = v := by unfold pintV; rw [hA]
        have e2 : pintB s = true := by unfold pintB; rw [hA]
        rw [e1]
        exact num_R (.inl ⟨e2, rfl⟩)
      | range =>
        refine (Tryd.strconv_ParseInt_10_at64_range ⟨s.toArray⟩ hsz hA _ w h4 (.inr ⟨_, _, rfl⟩)).mono fun e w' he => ?_
        obtain ⟨N, rfl, _, _, hw⟩ := he
        refine ⟨_, F, rfl, later_of_below hw, ?_⟩
        have e1 : pintV s = Lib.intSat 64 s := by unfold pintV; rw [hA]
        have e2 : pintB s = false := by unfold pintB; rw [hA]
        rw [e1]
        exact num_R (.inr ⟨e2, _, _, rfl⟩)
      | _ =>
        refine (Tryd.strconv_ParseInt_10_at64_syntax ⟨s.toArray⟩ hsz hA _ w h3 (.inr ⟨_, _, rfl⟩)).mono fun e w' he => ?_
        obtain ⟨N, rfl, _, _, hw⟩ := he
        refine ⟨_, F, rfl, later_of_below hw, ?_⟩
        have e1 : pintV s = 0 := by unfold pintV; rw [hA]
        have e2 : pintB s = false := by unfold pintB; rw [hA]
        rw [e1]
        exact num_R (.inr ⟨e2, _, _, rfl⟩)
    · cases h
  · trivial
end Go.Proofs.YtpeekgekmjldlaaDoor
namespace Go.Proofs.YtpeekgekmjldlaaDoor
open Go.Fw
theorem meets_held {E : Env} (hE : E.Ok) (k : Nat) {g : FuncId} {args v : V} (hhas : Has E.P g) (h : Tree.Hold E.P (evFn E k g args) fun r => r.soft.clean = true ∧ r.soft = v.soft) : Meets E.P g args v :=
  meets hE k hhas rfl h.h
end Go.Proofs.YtpeekgekmjldlaaDoor
namespace Go.Proofs.YtpeekgekmjldlaaDoor
open Go.Fw Go.RowKit
set_option maxRecDepth 100000
set_option linter.unusedVariables false
theorem ctext_tree (t : Int) : evFn (en [c_fmt, c_trim] []) 400 44 (.cons (.int false .i64 t) .nil) =
    Tree.node (bif bif decide (t < (0 : Int)) then true else decide (t > (1125899906842624 : Int)) then true else false) (Tree.leaf (V.tup (V.cons (V.str true []) (V.cons (V.int
    true IntKind.i64 (120 : Int)) V.nil)))) (Tree.need ((10 : Int) = (10 : Int) ∧ (-9223372036854775808 : Int) ≤ IntKind.wrap IntKind.i64 (Int.tdiv t (1000000000 : Int)) ∧
    IntKind.wrap IntKind.i64 (Int.tdiv t (1000000000 : Int)) ≤ (9223372036854775807 : Int)) (Tree.need (decide (Int.tmod t (1000000000 : Int) > (0 : Int)) = true → ((10 : Int) =
    (10 : Int) ∧ (-9223372036854775808 : Int) ≤ IntKind.wrap IntKind.i64 ((1000000000 : Int) + Int.tmod t (1000000000 : Int)) ∧ IntKind.wrap IntKind.i64 ((1000000000 : Int) +
    Int.tmod t (1000000000 : Int)) ≤ (9223372036854775807 : Int)) ∧ ((0 : Int) ≤ (1 : Int) ∧ (1 : Int) ≤ ((List.length (Lib.itoa (IntKind.wrap IntKind.i64 ((1000000000 : Int) +
    Int.tmod t (1000000000 : Int)))) : Nat) : Int)) ∧ ([(48 : UInt8)] = [(48 : UInt8)] ∧ List.length (List.take (List.length (Lib.itoa (IntKind.wrap IntKind.i64 ((1000000000 : Int)
    + Int.tmod t (1000000000 : Int)))) - Int.toNat (1 : Int)) (List.drop (Int.toNat (1 : Int)) (Lib.itoa (IntKind.wrap IntKind.i64 ((1000000000 : Int) + Int.tmod t (1000000000 :
    Int)))))) ≤ (1000 : Nat)) ∧ List.length [(46 : UInt8)] + List.length (Lib.trimRightB (List.take (List.length (Lib.itoa (IntKind.wrap IntKind.i64 ((1000000000 : Int) + Int.tmod
    t (1000000000 : Int)))) - Int.toNat (1 : Int)) (List.drop (Int.toNat (1 : Int)) (Lib.itoa (IntKind.wrap IntKind.i64 ((1000000000 : Int) + Int.tmod t (1000000000 : Int)))))) (48
    : UInt8)) ≤ (9223372036854775807 : Nat) ∧ List.length (Lib.itoa (IntKind.wrap IntKind.i64 (Int.tdiv t (1000000000 : Int)))) + List.length ([(46 : UInt8)] ++ Lib.trimRightB
    (List.take (List.length (Lib.itoa (IntKind.wrap IntKind.i64 ((1000000000 : Int) + Int.tmod t (1000000000 : Int)))) - Int.toNat (1 : Int)) (List.drop (Int.toNat (1 : Int))
    (Lib.itoa (IntKind.wrap IntKind.i64 ((1000000000 : Int) + Int.tmod t (1000000000 : Int)))))) (48 : UInt8)) ≤ (9223372036854775807 : Nat)) (Tree.leaf (V.tup (V.cons (V.str false
    (bif decide (Int.tmod t (1000000000 : Int) > (0 : Int)) then Lib.itoa (IntKind.wrap IntKind.i64 (Int.tdiv t (1000000000 : Int))) ++ ([(46 : UInt8)] ++ Lib.trimRightB (List.take
    (List.length (Lib.itoa (IntKind.wrap IntKind.i64 ((1000000000 : Int) + Int.tmod t (1000000000 : Int)))) - Int.toNat (1 : Int)) (List.drop (Int.toNat (1 : Int)) (Lib.itoa
    (IntKind.wrap IntKind.i64 ((1000000000 : Int) + Int.tmod t (1000000000 : Int)))))) (48 : UInt8)) else Lib.itoa (IntKind.wrap IntKind.i64 (Int.tdiv t (1000000000 : Int)))))
    (V.cons (V.int true IntKind.i64 (0 : Int)) V.nil)))))) := by kernel_rfl

theorem itoa_nat (n : Nat) : Lib.itoa (n : Int) = Lib.decDigits n := by
  unfold Lib.itoa
  rw [if_neg (by omega), Int.toNat_natCast]
theorem tdiv_nat (n : Nat) : Int.tdiv (n : Int) 1000000000 = ((n / 1000000000 : Nat) : Int) := by
  rw [Int.tdiv_eq_ediv_of_nonneg (by omega)]; omega
theorem tmod_nat (n : Nat) : Int.tmod (n : Int) 1000000000 = ((n % 1000000000 : Nat) : Int) := by
  rw [Int.tmod_eq_emod_of_nonneg (by omega)]; omega
theorem drop_all (l : List UInt8) : List.take (l.length - Int.toNat 1) (List.drop (Int.toNat 1) l) = l.drop 1 := by
  rw [List.take_of_length_le (by rw [List.length_drop]; exact Nat.le_refl _)]
  rfl
theorem ten_long (r : Nat) (h : r < 1000000000) : (Lib.decDigits (1000000000 + r)).length = 10 := by
  rw [Lib.decDigits_length]
  exact Lib.nDigits_unique 9 _ (by omega) (by omega)
def ctS (t : Int) : List UInt8 := bif decide (0 ≤ t ∧ t ≤ 1125899906842624) then tmT t.toNat else []
def ctE (t : Int) : Int := bif decide (0 ≤ t ∧ t ≤ 1125899906842624) then 0 else 120
theorem ct_no {t : Int} (h : (bif bif decide (t < (0 : Int)) then true else decide (t > (1125899906842624 : Int)) then true else false) = true) : ¬ (0 ≤ t ∧ t ≤ 1125899906842624) := by
  by_cases h1 : t < 0
  · omega
  · by_cases h2 : t > 1125899906842624
    · omega
    · rw [decide_eq_false h1, decide_eq_false h2] at h; cases h
theorem ct_yes {t : Int} (h : (bif bif decide (t < (0 : Int)) then true else decide (t > (1125899906842624 : Int)) then true else false) = false) : 0 ≤ t ∧ t ≤ 1125899906842624 := by
  by_cases h1 : t < 0
  · rw [decide_eq_true h1] at h; cases h
  · by_cases h2 : t > 1125899906842624
    · rw [decide_eq_false h1, decide_eq_true h2] at h; cases h
    · omega
theorem txt_eq (q r : Nat) (h : r < 1000000000) (t : Nat) (hq : t / 1000000000 = q) (hr : t % 1000000000 = r) :
    (bif decide (((r : Nat) : Int) > (0 : Int)) then Lib.decDigits q ++ ([(46 : UInt8)] ++ Lib.trimRightB (D9 r) 48) else Lib.decDigits q) = tmT t := by
  unfold tmT
  rw [hq, hr]
  by_cases h0 : r = 0
  · rw [if_pos h0, decide_eq_false (by omega), List.append_nil]; rfl
  · rw [if_neg h0, decide_eq_true (by omega)]; rfl
theorem ctext_hold (t : Int) : Tree.Hold P (evFn (en [c_fmt, c_trim] []) 400 44 (.cons (.int false .i64 t) .nil)) fun r => r.soft.clean = true ∧ r.soft = (V.tup (.cons (.str false (ctS t)) (.cons (.int false .i64 (ctE t)) .nil))).soft := by
  constructor
  rw [ctext_tree]
  refine ⟨fun h => ?_, fun h => ?_⟩
  · refine ⟨rfl, ?_⟩
    unfold ctS ctE
    rw [decide_eq_false (ct_no h)]
    rfl
  · have hT := ct_yes h
    obtain ⟨n, rfl⟩ : ∃ n : Nat, t = n := ⟨t.toNat, by omega⟩
    have hr : n % 1000000000 < 1000000000 := Nat.mod_lt _ (by decide)
    have hq7 := dec_short (n / 1000000000) (by omega)
    have he := txt_eq (n / 1000000000) (n % 1000000000) hr n rfl rfl
    have hS : ctS (n : Int) = tmT n := by unfold ctS; rw [decide_eq_true hT, Int.toNat_natCast]; rfl
    have hE : ctE (n : Int) = 0 := by unfold ctE; rw [decide_eq_true hT]; rfl
    rw [hS, hE, tdiv_nat, tmod_nat]
    generalize hqq : n / 1000000000 = q at he hq7
    generalize hrr : n % 1000000000 = r at he hr
    have w1 : IntKind.wrap IntKind.i64 (q : Int) = (q : Int) := IntWalk.i64_in _ ⟨by omega, by omega⟩
    have w2 : IntKind.wrap IntKind.i64 ((1000000000 : Int) + (r : Int)) = ((1000000000 + r : Nat) : Int) := by
      rw [IntWalk.i64_in _ ⟨by omega, by omega⟩]; omega
    rw [w1, w2, itoa_nat, itoa_nat, drop_all, drop1_dec r hr, ten_long r hr]
    have ht := trim_length (D9 r) 48
    rw [D9_length] at ht
    refine ⟨⟨rfl, by omega, by omega⟩, fun _ => ⟨⟨rfl, by omega, by omega⟩, ⟨by omega, by omega⟩, ⟨rfl, by rw [D9_length]; omega⟩, ?_, ?_⟩, rfl, ?_⟩
    · show 1 + _ ≤ _; omega
    · rw [List.length_append]; show _ + (1 + _) ≤ _; omega
    · rw [he]; rfl
theorem ctext_meets (t : Int) : Meets P 44 (.cons (.int false .i64 t) .nil) (.tup (.cons (.str false (ctS t)) (.cons (.int false .i64 (ctE t)) .nil))) :=
  meets_held (en_okl (l := [c_fmt, c_trim]) ⟨c_fmt_ok, c_trim_ok, trivial⟩ (ls := []) trivial) 400 (Has.of hn Tryd.func44 rfl) (ctext_hold t)
def c_ctext : Con := { g := 44, ans := fun x => match x with
  | .cons (.int _ .i64 t) .nil => some (.sure (.tup (.cons (.str false (ctS t)) (.cons (.int false .i64 (ctE t)) .nil))))
  | _ => none }
theorem c_ctext_ok : c_ctext.Ok P := by
  intro x
  dsimp only [c_ctext]
  split
  · rename_i v h
    split at h
    · rename_i st t
      injection h with h; injection h with h; subst h
      exact Meets.of_soft (args := .cons (.int st .i64 t) .nil) (ctext_meets t)
    · cases h
  · rename_i p v h
    split at h <;> cases h
  · trivial
end Go.Proofs.YtpeekgekmjldlaaDoor
namespace Go.Proofs.YtpeekgekmjldlaaDoor
open Go.Fw
abbrev kDg (s : List UInt8) (r x : Int) : V := .cons (.str false s) (.cons (.int false .i64 r) (.cons (.int false .i64 x) .nil))
/-- The digits of what stands ahead of the point. -/
noncomputable def lpDg : Lp := ⟨45, 4, fun _ s => match vw 0 52 [3,4,5] [] s with
  | (true, .cons (.str _ s0) (.cons (.int _ .i64 r) (.cons (.int _ .i64 x) .nil)), .nil) =>
    bif Nat.beq s.n 0 then .need (s0 = [] ∧ 0 ≤ x ∧ x ≤ 1125899) (.all Int fun y => .leaf (.exit 0, canon 0 52 [3,4,5] [] (kDg (Lib.decDigits x.toNat) r y) .nil)) else .stuck
  | _ => .stuck⟩
noncomputable abbrev enN (l : List Con) (ls : List Lp := []) : Env := { P, Γ := lookG l, lp := lookL ls, mg := false }
theorem enN_ok {l : List Con} (h : AllOk P l) {ls : List Lp} (hls : AllLp P ls) : (enN l ls).Ok := env_ok hm hn h hls _
end Go.Proofs.YtpeekgekmjldlaaDoor
namespace Go.Proofs.YtpeekgekmjldlaaDoor
open Go.Fw
set_option maxRecDepth 100000
set_option linter.unusedVariables false
theorem dg_body (B : Base) (s : List UInt8) (r z : Int) : ((ev (enN []) 400 45 (loopAt P 45 4) B (canon 0 52 [3,4,5] [] (kDg s r z) .nil)).bind fun x => Tree.leaf (x.1, vw 0 52 [3,4,5] [] x.2)) =
    Tree.need ((0 : Int) ≤ IntKind.wrap IntKind.i32 (IntKind.wrap IntKind.i64 ((48 : Int) + Int.tmod z (10 : Int))) ∧ IntKind.wrap IntKind.i32 (IntKind.wrap IntKind.i64 ((48 : Int)
    + Int.tmod z (10 : Int))) < (128 : Int)) (Tree.need (List.length [UInt8.ofNat (Int.toNat (IntKind.wrap IntKind.i32 (IntKind.wrap IntKind.i64 ((48 : Int) + Int.tmod z (10 :
    Int)))))] + List.length s ≤ (9223372036854775807 : Nat)) (Tree.node (decide (z < (10 : Int))) (Tree.leaf (Ex.exit (0 : Nat), true, V.cons (V.str false ([UInt8.ofNat (Int.toNat
    (IntKind.wrap IntKind.i32 (IntKind.wrap IntKind.i64 ((48 : Int) + Int.tmod z (10 : Int)))))] ++ s)) (V.cons (V.int false IntKind.i64 r) (V.cons (V.int false IntKind.i64 z)
    V.nil)), V.nil)) (Tree.leaf (Ex.normal, true, V.cons (V.str false ([UInt8.ofNat (Int.toNat (IntKind.wrap IntKind.i32 (IntKind.wrap IntKind.i64 ((48 : Int) + Int.tmod z (10 :
    Int)))))] ++ s)) (V.cons (V.int false IntKind.i64 r) (V.cons (V.int false IntKind.i64 (IntKind.wrap IntKind.i64 (Int.tdiv z (10 : Int)))) V.nil)), V.nil)))) := by kernel_rfl
end Go.Proofs.YtpeekgekmjldlaaDoor
namespace Go.Proofs.YtpeekgekmjldlaaDoor
open Go.Fw
set_option maxRecDepth 100000
set_option linter.unusedVariables false
theorem dgE_ok : (enN []).Ok := enN_ok (l := []) trivial (ls := []) trivial
theorem dg_byte (x : Nat) : UInt8.ofNat (Int.toNat (IntKind.wrap IntKind.i32 (IntKind.wrap IntKind.i64 ((48 : Int) + Int.tmod (x : Int) (10 : Int))))) = UInt8.ofNat (48 + x % 10) ∧
    (0 : Int) ≤ IntKind.wrap IntKind.i32 (IntKind.wrap IntKind.i64 ((48 : Int) + Int.tmod (x : Int) (10 : Int))) ∧ IntKind.wrap IntKind.i32 (IntKind.wrap IntKind.i64 ((48 : Int) + Int.tmod (x : Int) (10 : Int))) < (128 : Int) := by
  have e : Int.tmod (x : Int) 10 = ((x % 10 : Nat) : Int) := by rw [Int.tmod_eq_emod_of_nonneg (by omega)]; omega
  have hm : x % 10 < 10 := Nat.mod_lt _ (by decide)
  rw [e]
  generalize x % 10 = y at hm
  have w1 : IntKind.wrap IntKind.i64 ((48 : Int) + (y : Int)) = ((48 + y : Nat) : Int) := by rw [IntWalk.i64_in _ ⟨by omega, by omega⟩]; omega
  have w2 : IntKind.wrap IntKind.i32 ((48 + y : Nat) : Int) = ((48 + y : Nat) : Int) := by
    unfold IntKind.wrap
    simp [IntKind.signed, IntKind.bits]
    omega
  rw [w1, w2]
  exact ⟨by rw [Int.toNat_natCast], by omega, by omega⟩
theorem lpDg_ok : lpDg.Ok P := by
  refine lp_ok (by kernel_rfl) fun hin B s Q hq => ?_
  simp only [lpDg] at hq hin ⊢
  split at hq
  · rename_i q0 s0 q1 r q2 x heq
    cases hn : Nat.beq s.n 0
    · rw [hn] at hq; exact hq.elim
    · rw [hn] at hq
      obtain ⟨⟨rfl, h0, h1⟩, hq⟩ := hq
      obtain ⟨x, rfl⟩ : ∃ n : Nat, x = n := ⟨x.toNat, by omega⟩
      have hsame : Same 0 52 [3,4,5] [] s (kDg [] r (x : Int)) .nil := by
        refine ⟨by rw [heq], by rw [heq]; rfl, by rw [heq]⟩
      have hx7 := dec_short x (by omega)
      refine loop_view (k := 400) (f := 45) dgE_ok hin (fun i : List UInt8 × Nat => kDg i.1 r i.2) (fun _ => .nil) (fun i => Lib.decDigits i.2 ++ i.1 = Lib.decDigits x ∧ i.2 ≤ 1125899) (fun i => i.2) Q (fun i => dg_body B i.1 r i.2) ?_ (Nat.eq_of_beq_eq_true hn) (i0 := ([], x)) ⟨by simp, by omega⟩ hsame
      rintro ⟨s', y⟩ ⟨hinv, hy⟩
      dsimp only at hinv hy ⊢
      obtain ⟨e1, e2, e3⟩ := dg_byte y
      rw [e1]
      have hlen := congrArg List.length hinv
      rw [List.length_append] at hlen
      rw [Int.toNat_natCast] at hq
      refine ⟨⟨e2, e3⟩, ?_, fun hc => ?_, fun hc => ?_⟩
      · show 1 + s'.length ≤ _; omega
      · have hlt : y < 10 := by have := of_decide_eq_true hc; omega
        have e : [UInt8.ofNat (48 + y % 10)] ++ s' = Lib.decDigits x := by
          rw [← hinv, Lib.decDigits_one hlt, Nat.mod_eq_of_lt hlt]
        rw [e]
        exact ⟨rfl, _, _, rfl, rfl, hq y⟩
      · have hge : ¬ y < 10 := by have := of_decide_eq_false hc; omega
        have ed : IntKind.wrap IntKind.i64 (Int.tdiv (y : Int) 10) = ((y / 10 : Nat) : Int) := by
          have e : Int.tdiv (y : Int) 10 = ((y / 10 : Nat) : Int) := by rw [Int.tdiv_eq_ediv_of_nonneg (by omega)]; omega
          rw [e]
          exact IntWalk.i64_in _ ⟨by omega, by omega⟩
        rw [ed]
        refine ⟨rfl, ([UInt8.ofNat (48 + y % 10)] ++ s', y / 10), ⟨?_, by show y / 10 ≤ _; omega⟩, by show y / 10 < y; omega, rfl, rfl⟩
        show Lib.decDigits (y / 10) ++ ([UInt8.ofNat (48 + y % 10)] ++ s') = _
        have e : Lib.decDigits y = Lib.decDigits (y / 10) ++ [UInt8.ofNat (48 + y % 10)] := by rw [Lib.decDigits, dif_neg hge]
        rw [← hinv, e, List.append_assoc]
  · exact hq.elim

/-- The digits behind the point, from the last one on. -/
def rk (t : Int) : Nat → Int
  | 0 => Int.tmod t 1000000000
  | k + 1 => IntKind.wrap IntKind.i64 (Int.tdiv (rk t k) 10)
def bk (t : Int) (k : Nat) : Int := IntKind.wrap IntKind.u8 (IntKind.wrap IntKind.i64 ((48 : Int) + Int.tmod (rk t k) 10))
def bl (t : Int) (k : Nat) : Nat → List UInt8
  | 0 => []
  | n + 1 => UInt8.ofNat (Int.toNat (bk t (k + n))) :: bl t k n
def chC (t : Int) (D : List UInt8) : Nat → Nat → Tree V
  | 0, _ => .stuck
  | n + 1, k => .node (bk t k == 48) (chC t D n (k + 1)) (.need (D.length + [(46 : UInt8)].length ≤ 9223372036854775807) (.need ((D ++ [(46 : UInt8)]).length + (bl t k (n + 1)).length ≤ 9223372036854775807) (.leaf (.str false (D ++ [(46 : UInt8)] ++ bl t k (n + 1))))))
theorem rtext_tree (t : Int) : evFn (enN [] [lpDg]) 400 45 (.cons (.int false .i64 t) .nil) =
    .need (([] : List UInt8) = [] ∧ (0 : Int) ≤ IntKind.wrap IntKind.i64 (Int.tdiv t 1000000000) ∧ IntKind.wrap IntKind.i64 (Int.tdiv t 1000000000) ≤ 1125899)
      (.all Int fun _ => .node (Int.tmod t 1000000000 == 0) (.leaf (.str false (Lib.decDigits (Int.toNat (IntKind.wrap IntKind.i64 (Int.tdiv t 1000000000))))))
        (chC t (Lib.decDigits (Int.toNat (IntKind.wrap IntKind.i64 (Int.tdiv t 1000000000)))) 9 0)) := by kernel_rfl
theorem rk_nat (n : Nat) : ∀ k, rk (n : Int) k = ((n % 1000000000 / 10 ^ k : Nat) : Int) := by
  intro k
  induction k with
  | zero => show Int.tmod (n : Int) 1000000000 = _; rw [tmod_nat, Nat.pow_zero, Nat.div_one]
  | succ k ih =>
    have hm : n % 1000000000 < 1000000000 := Nat.mod_lt _ (by decide)
    show IntKind.wrap IntKind.i64 (Int.tdiv (rk (n : Int) k) 10) = _
    rw [ih]
    have hle := Nat.div_le_self (n % 1000000000) (10 ^ k)
    rw [Nat.pow_succ, ← Nat.div_div_eq_div_mul]
    generalize n % 1000000000 / 10 ^ k = z at hle
    have e : Int.tdiv (z : Int) 10 = ((z / 10 : Nat) : Int) := by rw [Int.tdiv_eq_ediv_of_nonneg (by omega)]; omega
    rw [e]
    exact IntWalk.i64_in _ ⟨by omega, by omega⟩
theorem bk_nat (n k : Nat) : bk (n : Int) k = ((48 + n % 1000000000 / 10 ^ k % 10 : Nat) : Int) := by
  unfold bk
  rw [rk_nat]
  generalize n % 1000000000 / 10 ^ k = z
  have hm : z % 10 < 10 := Nat.mod_lt _ (by decide)
  have e : Int.tmod (z : Int) 10 = ((z % 10 : Nat) : Int) := by rw [Int.tmod_eq_emod_of_nonneg (by omega)]; omega
  rw [e]
  generalize z % 10 = y at hm
  have w1 : IntKind.wrap IntKind.i64 ((48 : Int) + (y : Int)) = ((48 + y : Nat) : Int) := by rw [IntWalk.i64_in _ ⟨by omega, by omega⟩]; omega
  rw [w1]
  unfold IntKind.wrap
  simp [IntKind.signed, IntKind.bits]
  omega
theorem bl_nat (n k : Nat) : ∀ m, bl (n : Int) k m = (List.range m).map fun j => Lib.dg (n % 1000000000) (k + (m - 1 - j)) := by
  intro m
  induction m with
  | zero => rfl
  | succ m ih =>
    show UInt8.ofNat (Int.toNat (bk (n : Int) (k + m))) :: bl (n : Int) k m = _
    rw [bk_nat, Int.toNat_natCast, ih, List.range_succ_eq_map, List.map_cons, List.map_map]
    congr 1
    refine List.map_congr_left fun j hj => ?_
    have := List.mem_range.1 hj
    show Lib.dg _ _ = Lib.dg _ _
    congr 1
    omega
theorem D9_take (r k : Nat) (hk : k ≤ 9) : (D9 r).take (9 - k) = (List.range (9 - k)).map fun j => Lib.dg r (8 - j) := by
  unfold D9
  rw [← List.map_take, List.take_range, Nat.min_eq_left (by omega)]
theorem bl_D9 (n k m : Nat) (h : k + m = 9) : bl (n : Int) k m = (D9 (n % 1000000000)).take m := by
  have hm : m = 9 - k := by omega
  rw [bl_nat, hm, D9_take _ _ (by omega)]
  refine List.map_congr_left fun j hj => ?_
  have := List.mem_range.1 hj
  congr 1
  omega
theorem D9_get (r j : Nat) (hj : j < 9) : (D9 r)[j]? = some (Lib.dg r (8 - j)) := by
  unfold D9
  rw [List.getElem?_map, List.getElem?_range hj]
  rfl
theorem chC_hold (n : Nat) (hr : n % 1000000000 ≠ 0) (D : List UInt8) (hD : D.length ≤ 7) : ∀ m k, k + m = 9 → (∀ j, j < k → Lib.dg (n % 1000000000) j = 48) →
    (chC (n : Int) D m k).holds P fun r => r.soft.clean = true ∧ r.soft = (V.str false (D ++ (46 :: Lib.trimRightB (D9 (n % 1000000000)) 48))).soft := by
  intro m
  induction m with
  | zero =>
    intro k hk hz
    exfalso
    have h9 : k = 9 := by omega
    subst h9
    apply hr
    have hlt : n % 1000000000 < 1000000000 := Nat.mod_lt _ (by decide)
    rw [← val_D9 _ hlt]
    have e : D9 (n % 1000000000) = List.replicate 9 48 := by
      apply List.ext_getElem?
      intro j
      by_cases hj : j < 9
      · rw [D9_get _ _ hj, hz _ (by omega), List.getElem?_replicate_of_lt hj]
      · rw [List.getElem?_eq_none (by rw [D9_length]; omega), List.getElem?_eq_none (by rw [List.length_replicate]; omega)]
    rw [e, val_zeros]
  | succ m ih =>
    intro k hk hz
    have hb : (bk (n : Int) k == 48) = true ↔ Lib.dg (n % 1000000000) k = 48 := by
      rw [bk_nat]
      have hm : n % 1000000000 / 10 ^ k % 10 < 10 := Nat.mod_lt _ (by decide)
      unfold Lib.dg
      generalize n % 1000000000 / 10 ^ k % 10 = y at hm
      rw [beq_iff_eq]
      constructor
      · intro h
        have : y = 0 := by omega
        subst this; rfl
      · intro h
        have := congrArg UInt8.toNat h
        rw [UInt8.toNat_ofNat'] at this
        have e : (48 : UInt8).toNat = 48 := rfl
        rw [e] at this
        omega
    refine ⟨fun h => ih (k + 1) (by omega) fun j hj => ?_, fun h => ?_⟩
    · rcases Nat.eq_or_lt_of_le (Nat.le_of_lt_succ hj) with e | e
      · rw [e]; exact hb.1 h
      · exact hz j e
    · have hne : Lib.dg (n % 1000000000) k ≠ 48 := fun h' => by rw [hb.2 h'] at h; cases h
      have htrim : Lib.trimRightB (D9 (n % 1000000000)) 48 = (D9 (n % 1000000000)).take (m + 1) := by
        refine Lib.trimRightB_take _ _ _ (by rw [D9_length]; omega) (fun j b hj hb => ?_) (fun b _ hb => ?_)
        · have hj9 : j < 9 := by
            apply Classical.byContradiction; intro h9
            rw [List.getElem?_eq_none (by rw [D9_length]; omega)] at hb; cases hb
          rw [D9_get _ _ hj9] at hb
          injection hb with hb
          rw [← hb]
          exact hz _ (by omega)
        · rw [D9_get _ _ (by omega)] at hb
          injection hb with hb
          rw [← hb]
          have e : 8 - (m + 1 - 1) = k := by omega
          rw [e]
          exact hne
      rw [bl_D9 _ _ _ hk]
      have hl : ((D9 (n % 1000000000)).take (m + 1)).length ≤ 9 := by rw [List.length_take, D9_length]; omega
      refine ⟨by show D.length + 1 ≤ _; omega, by rw [List.length_append]; show D.length + 1 + _ ≤ _; omega, rfl, ?_⟩
      rw [htrim, List.append_assoc]
      rfl
theorem rtext_hold (n : Nat) (hT : isT n) : Tree.Hold P (evFn (enN [] [lpDg]) 400 45 (.cons (.int false .i64 (n : Int)) .nil)) fun r => r.soft.clean = true ∧ r.soft = (V.str false (tmT n)).soft := by
  constructor
  rw [rtext_tree]
  unfold isT at hT
  have hq7 := dec_short (n / 1000000000) (by omega)
  have w1 : IntKind.wrap IntKind.i64 (Int.tdiv (n : Int) 1000000000) = ((n / 1000000000 : Nat) : Int) := by
    rw [tdiv_nat]; exact IntWalk.i64_in _ ⟨by omega, by omega⟩
  rw [w1, Int.toNat_natCast, tmod_nat]
  refine ⟨⟨rfl, by omega, by omega⟩, fun _ => ⟨fun h => ⟨rfl, ?_⟩, fun h => ?_⟩⟩
  · have h0 : n % 1000000000 = 0 := by have := eq_of_beq h; omega
    unfold tmT
    rw [if_pos h0, List.append_nil]
  · have h0 : n % 1000000000 ≠ 0 := fun h0 => by rw [h0] at h; cases h
    have key := chC_hold n h0 (Lib.decDigits (n / 1000000000)) hq7 9 0 rfl (fun j hj => by omega)
    unfold tmT
    rw [if_neg h0]
    exact key
theorem rtext2_meets (n : Nat) (hT : isT n) : Meets P 45 (.cons (.int false .i64 (n : Int)) .nil) (.str false (tmT n)) :=
  meets_held (enN_ok (l := []) trivial (ls := [lpDg]) ⟨lpDg_ok, trivial⟩) 400 (Has.of hn Tryd.func45 rfl) (rtext_hold n hT)
def c_rctext : Con := { g := 45, ans := fun x => match x with
  | .cons (.int _ .i64 t) .nil => some (.where_ (0 ≤ t ∧ t ≤ 1125899906842624) (.str false (tmT t.toNat)))
  | _ => none }
theorem c_rctext_ok : c_rctext.Ok P := by
  intro x
  dsimp only [c_rctext]
  split
  · rename_i v h
    split at h <;> cases h
  · rename_i p v h
    split at h
    · rename_i st t
      injection h with h; injection h with h1 h2; subst h1; subst h2
      rintro ⟨h0, h1⟩
      obtain ⟨n, rfl⟩ : ∃ n : Nat, t = n := ⟨t.toNat, by omega⟩
      refine Meets.of_soft (args := .cons (.int st .i64 (n : Int)) .nil) ?_
      rw [Int.toNat_natCast]
      exact rtext2_meets n (by unfold isT; omega)
    · cases h
  · trivial
end Go.Proofs.YtpeekgekmjldlaaDoor
