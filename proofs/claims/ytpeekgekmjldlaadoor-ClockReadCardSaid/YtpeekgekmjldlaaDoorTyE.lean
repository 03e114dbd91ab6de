/- ClockRead, the times: a round of the loop, as the evaluator has it. ClockRead, the texts: a round of the loop, as the evaluator has it. ClockRead: its loops, and what it answers. -/
import Derived.Test.YtpeekgekmjldlaaDoorTyC
namespace Go.Proofs.YtpeekgekmjldlaaDoor
open Go.Fw
set_option maxRecDepth 100000
set_option linter.unusedVariables false
theorem clC_body (B : Base) (n : Nat) (g : Nat → List UInt8) (m : Nat) (f : Nat → Int) (mh : Value → Bool) (mv : Value → Int) (i : Int) : ((ev (en [c_ctext, c_cparse] []) 400 12 (loopAt P 12 5) B (canonG 1 106 [1,5,23,24,25] [] [0] (kCm n g m f i) .nil [metI mh mv])).bind fun x => Tree.leaf (x.1, vwG 1 106 [1,5,23,24,25] [] [0] x.2)) =
    Tree.node (bif decide (i < (m : Int)) then false else true) (Tree.leaf (Ex.exit (0 : Nat), true, V.cons (V.rsl false (1 : Nat) n fun a => V.cons (V.str false (g a)) V.nil)
    (V.cons (V.mp (0 : Nat)) (V.cons (V.rsl false (1 : Nat) m fun a => V.cons (V.int false IntKind.i64 (f a)) V.nil) (V.cons (V.int false IntKind.i64 (m : Int)) (V.cons (V.int
    false IntKind.i64 i) V.nil)))), V.nil, [Blk.mapV MK.str false fun k => (mh k, V.int false IntKind.i64 (mv k))])) (Tree.need ((0 : Int) ≤ i ∧ i < (m : Int)) (Tree.node (bif i ==
    (30 : Int) then true else false) (Tree.leaf (Ex.exit (0 : Nat), true, V.cons (V.rsl false (1 : Nat) n fun a => V.cons (V.str false (g a)) V.nil) (V.cons (V.mp (0 : Nat))
    (V.cons (V.rsl false (1 : Nat) m fun a => V.cons (V.int false IntKind.i64 (f a)) V.nil) (V.cons (V.int false IntKind.i64 (m : Int)) (V.cons (V.int false IntKind.i64 i)
    V.nil)))), V.nil, [Blk.mapV MK.str false fun k => (mh k, V.int false IntKind.i64 (mv k))])) (Tree.node (bif ctE (f (Int.toNat i)) != (0 : Int) then true else false) (Tree.leaf
    (Ex.normal, true, V.cons (V.rsl false (1 : Nat) n fun a => V.cons (V.str false (g a)) V.nil) (V.cons (V.mp (0 : Nat)) (V.cons (V.rsl false (1 : Nat) m fun a => V.cons (V.int
    false IntKind.i64 (f a)) V.nil) (V.cons (V.int false IntKind.i64 (m : Int)) (V.cons (V.int false IntKind.i64 (IntKind.wrap IntKind.i64 (i + (1 : Int)))) V.nil)))), V.nil,
    [Blk.mapV MK.str false fun k => (mh k, V.int false IntKind.i64 (mv k))])) (Tree.need (List.length (ctS (f (Int.toNat i))) ≤ (1000 : Nat)) (Tree.node (bif bif cpE (ctS (f
    (Int.toNat i))) != (0 : Int) then true else bif cpV (ctS (f (Int.toNat i))) != f (Int.toNat i) then true else bif mh (Value.string (ByteArray.mk (List.toArray (ctS (f
    (Int.toNat i)))))) then (bif mh (Value.string (ByteArray.mk (List.toArray (ctS (f (Int.toNat i)))))) then mv (Value.string (ByteArray.mk (List.toArray (ctS (f (Int.toNat
    i)))))) else (0 : Int)) != f (Int.toNat i) else false then true else false) (Tree.leaf (Ex.ret, true, V.cons (V.rsl false (1 : Nat) n fun a => V.cons (V.str false (g a)) V.nil)
    (V.cons (V.mp (0 : Nat)) (V.cons (V.rsl false (1 : Nat) m fun a => V.cons (V.int false IntKind.i64 (f a)) V.nil) (V.cons (V.int false IntKind.i64 (m : Int)) (V.cons (V.int
    false IntKind.i64 i) V.nil)))), V.nil, [Blk.mapV MK.str false fun k => (mh k, V.int false IntKind.i64 (mv k))])) (Tree.leaf (Ex.normal, true, V.cons (V.rsl false (1 : Nat) n
    fun a => V.cons (V.str false (g a)) V.nil) (V.cons (V.mp (0 : Nat)) (V.cons (V.rsl false (1 : Nat) m fun a => V.cons (V.int false IntKind.i64 (f a)) V.nil) (V.cons (V.int false
    IntKind.i64 (m : Int)) (V.cons (V.int false IntKind.i64 (IntKind.wrap IntKind.i64 (i + (1 : Int)))) V.nil)))), V.nil, [Blk.mapV MK.str false fun k => bif keyEq k (Value.string
    (ByteArray.mk (List.toArray (ctS (f (Int.toNat i)))))) then (true, V.int false IntKind.i64 (f (Int.toNat i))) else (mh k, V.int false IntKind.i64 (mv k))]))))))) := by kernel_rfl
end Go.Proofs.YtpeekgekmjldlaaDoor
namespace Go.Proofs.YtpeekgekmjldlaaDoor
open Go.Fw
set_option maxRecDepth 100000
set_option linter.unusedVariables false
theorem clD_body (B : Base) (n : Nat) (g : Nat → List UInt8) (i : Int) : ((ev (en [c_ctext, c_cparse] []) 400 12 (loopAt P 12 17) B (canon 1 106 [69,70,71] [] (kCb n g i) .nil)).bind fun x => Tree.leaf (x.1, vw 1 106 [69,70,71] [] x.2)) =
    Tree.node (bif decide (i < (n : Int)) then false else true) (Tree.leaf (Ex.exit (2 : Nat), true, V.cons (V.rsl false (1 : Nat) n fun a => V.cons (V.str false (g a)) V.nil)
    (V.cons (V.int false IntKind.i64 (n : Int)) (V.cons (V.int false IntKind.i64 i) V.nil)), V.nil)) (Tree.need ((0 : Int) ≤ i ∧ i < (n : Int)) (Tree.node (bif i == (30 : Int) then
    true else false) (Tree.leaf (Ex.exit (2 : Nat), true, V.cons (V.rsl false (1 : Nat) n fun a => V.cons (V.str false (g a)) V.nil) (V.cons (V.int false IntKind.i64 (n : Int))
    (V.cons (V.int false IntKind.i64 i) V.nil)), V.nil)) (Tree.need (((0 : Int) ≤ if (60 : Int) < ((List.length (g (Int.toNat i)) : Nat) : Int) then (60 : Int) else ((List.length
    (g (Int.toNat i)) : Nat) : Int)) ∧ (if (60 : Int) < ((List.length (g (Int.toNat i)) : Nat) : Int) then (60 : Int) else ((List.length (g (Int.toNat i)) : Nat) : Int)) ≤
    ((List.length (g (Int.toNat i)) : Nat) : Int)) (Tree.need (List.length (List.take (Int.toNat (if (60 : Int) < ((List.length (g (Int.toNat i)) : Nat) : Int) then (60 : Int) else
    ((List.length (g (Int.toNat i)) : Nat) : Int)) - (0 : Nat)) (List.drop (0 : Nat) (g (Int.toNat i)))) ≤ (1000 : Nat)) (Tree.node (bif cpE (List.take (Int.toNat (if (60 : Int) <
    ((List.length (g (Int.toNat i)) : Nat) : Int) then (60 : Int) else ((List.length (g (Int.toNat i)) : Nat) : Int)) - (0 : Nat)) (List.drop (0 : Nat) (g (Int.toNat i)))) != (0 :
    Int) then true else false) (Tree.leaf (Ex.normal, true, V.cons (V.rsl false (1 : Nat) n fun a => V.cons (V.str false (g a)) V.nil) (V.cons (V.int false IntKind.i64 (n : Int))
    (V.cons (V.int false IntKind.i64 (IntKind.wrap IntKind.i64 (i + (1 : Int)))) V.nil)), V.nil)) (Tree.need ((ctE (cpV (List.take (Int.toNat (if (60 : Int) < ((List.length (g
    (Int.toNat i)) : Nat) : Int) then (60 : Int) else ((List.length (g (Int.toNat i)) : Nat) : Int)) - (0 : Nat)) (List.drop (0 : Nat) (g (Int.toNat i))))) != (0 : Int)) = false →
    ((0 : Int) ≤ if (60 : Int) < ((List.length (g (Int.toNat i)) : Nat) : Int) then (60 : Int) else ((List.length (g (Int.toNat i)) : Nat) : Int)) ∧ (if (60 : Int) < ((List.length
    (g (Int.toNat i)) : Nat) : Int) then (60 : Int) else ((List.length (g (Int.toNat i)) : Nat) : Int)) ≤ ((List.length (g (Int.toNat i)) : Nat) : Int)) (Tree.node (bif bif ctE
    (cpV (List.take (Int.toNat (if (60 : Int) < ((List.length (g (Int.toNat i)) : Nat) : Int) then (60 : Int) else ((List.length (g (Int.toNat i)) : Nat) : Int)) - (0 : Nat))
    (List.drop (0 : Nat) (g (Int.toNat i))))) != (0 : Int) then true else !ctS (cpV (List.take (Int.toNat (if (60 : Int) < ((List.length (g (Int.toNat i)) : Nat) : Int) then (60 :
    Int) else ((List.length (g (Int.toNat i)) : Nat) : Int)) - (0 : Nat)) (List.drop (0 : Nat) (g (Int.toNat i))))) == List.take (Int.toNat (if (60 : Int) < ((List.length (g
    (Int.toNat i)) : Nat) : Int) then (60 : Int) else ((List.length (g (Int.toNat i)) : Nat) : Int)) - (0 : Nat)) (List.drop (0 : Nat) (g (Int.toNat i))) then true else false)
    (Tree.leaf (Ex.ret, true, V.cons (V.rsl false (1 : Nat) n fun a => V.cons (V.str false (g a)) V.nil) (V.cons (V.int false IntKind.i64 (n : Int)) (V.cons (V.int false
    IntKind.i64 i) V.nil)), V.nil)) (Tree.leaf (Ex.normal, true, V.cons (V.rsl false (1 : Nat) n fun a => V.cons (V.str false (g a)) V.nil) (V.cons (V.int false IntKind.i64 (n :
    Int)) (V.cons (V.int false IntKind.i64 (IntKind.wrap IntKind.i64 (i + (1 : Int)))) V.nil)), V.nil))))))))) := by kernel_rfl
end Go.Proofs.YtpeekgekmjldlaaDoor
namespace Go.Proofs.YtpeekgekmjldlaaDoor
open Go.Fw
set_option maxRecDepth 100000
set_option linter.unusedVariables false
theorem clCE_ok : (en [c_ctext, c_cparse] []).Ok := en_okl (l := [c_ctext, c_cparse]) ⟨c_ctext_ok, c_cparse_ok, trivial⟩ (ls := []) trivial
noncomputable def clCG (n : Nat) (g : Nat → List UInt8) (m : Nat) (f : Nat → Int) : Lp := ⟨12, 5, fun _ s => match vwG 1 106 [1,5,23,24,25] [] [0] s with
  | (true, .cons (.rsl _ 1 n' g') (.cons (.mp 0) (.cons (.rsl _ 1 m' f') (.cons (.int _ .i64 m2) (.cons (.int _ .i64 i0) .nil)))), .nil, [.mapV .str _ h]) =>
    bif Nat.beq s.n 1 then .need ((n' = n ∧ g' = rowZ g) ∧ (m' = m ∧ f' = rowI f) ∧ m2 = m ∧ i0 = 0 ∧ ∀ k, (h k).1 = false) (.all (Value → Bool) fun mh => .all (Value → Int) fun mv => .all Int fun i => .leaf (.exit 0, canonG 1 106 [1,5,23,24,25] [] [0] (kCm n g m f i) .nil [metI mh mv])) else .stuck
  | _ => .stuck⟩
noncomputable def clDG (n : Nat) (g : Nat → List UInt8) : Lp := ⟨12, 17, fun _ s => match vw 1 106 [69,70,71] [] s with
  | (true, .cons (.rsl _ 1 n' g') (.cons (.int _ .i64 n2) (.cons (.int _ .i64 i0) .nil)), .nil) =>
    bif Nat.beq s.n 1 then .need ((n' = n ∧ g' = rowZ g) ∧ n2 = n ∧ i0 = 0) (.all Int fun i => .leaf (.exit 2, canon 1 106 [69,70,71] [] (kCb n g i) .nil)) else .stuck
  | _ => .stuck⟩
/-- What is met are times' texts, and their times. -/
def MetOk (mh : Value → Bool) (mv : Value → Int) : Prop := ∀ k, mh k = true → ∃ n, isT n ∧ k = .string ⟨(tmT n).toArray⟩ ∧ mv k = (n : Int)
theorem met_bok (mh : Value → Bool) (mv : Value → Int) : BOk 1 (metI mh mv) (metI mh mv) := BOk.map fun k _ => ⟨rfl, fun _ => ⟨rfl, rfl⟩⟩
theorem str_inj {a b : List UInt8} (h : (Value.string ⟨a.toArray⟩) = Value.string ⟨b.toArray⟩) : a = b := by
  injection h with h
  injection h with h
  exact Array.toList_inj.2 h
theorem ctE_right {a : Int} (h : (bif ctE a != (0 : Int) then true else false) = false) : ∃ n : Nat, a = n ∧ isT n := by
  unfold ctE at h
  by_cases hr : 0 ≤ a ∧ a ≤ 1125899906842624
  · exact ⟨a.toNat, (Int.toNat_of_nonneg hr.1).symm, by unfold isT; omega⟩
  · rw [decide_eq_false hr] at h; cases h
theorem cp_tmT (n : Nat) (h : isT n) : cpE (tmT n) = 0 ∧ cpV (tmT n) = (n : Int) := by
  obtain ⟨h1, h2⟩ := rt_tmT n h
  unfold cpE cpV
  rw [h1, h2]
  exact ⟨rfl, rfl⟩
theorem clC_cond (E : Int) (V a : Int) (hk : Bool) (mw : Int) (hE : E = 0) (hV : V = a) (hm : hk = true → mw = a) :
    (bif bif E != (0 : Int) then true else bif V != a then true else bif hk then (bif hk then mw else (0 : Int)) != a else false then true else false) = false := by
  subst hE; subst hV
  have e : (V != V) = false := by simp
  rw [e]
  cases hk
  · rfl
  · rw [hm rfl]
    simp only [cond_true]
    rw [e]; rfl
theorem clCG_ok (n : Nat) (g : Nat → List UInt8) (m : Nat) (f : Nat → Int) : (clCG n g m f).Ok P := by
  refine lp_ok (by kernel_rfl) fun hin B s Q hq => ?_
  simp only [clCG] at hq hin ⊢
  split at hq
  · rename_i q0 n' g' q1 m' f' q2 m2 q3 i0 q4 h heq
    cases hn : Nat.beq s.n 1
    · rw [hn] at hq; exact hq.elim
    · rw [hn] at hq
      obtain ⟨⟨⟨rfl, rfl⟩, ⟨rfl, rfl⟩, rfl, rfl, hh⟩, hq⟩ := hq
      have hsame : SameG 1 106 [1,5,23,24,25] [] [0] s (kCm n' g m' f 0) .nil [metI (fun _ => false) (fun _ => 0)] := by
        refine ⟨by rw [heq], by rw [heq]; rfl, by rw [heq], by rw [heq]; exact ⟨BOk.map fun k _ => ⟨by rw [hh k], fun h' => by rw [hh k] at h'; cases h'⟩, trivial⟩⟩
      refine loop_viewG (k := 400) (f := 12) clCE_ok hin (fun i : Int × (Value → Bool) × (Value → Int) => kCm n' g m' f i.1) (fun _ => .nil) (fun i => [metI i.2.1 i.2.2]) (fun i => (0 ≤ i.1 ∧ i.1 ≤ 30) ∧ MetOk i.2.1 i.2.2) (fun i => (30 - i.1).toNat) Q
        (fun i => clC_body B n' g m' f i.2.1 i.2.2 i.1) ?_ (Nat.eq_of_beq_eq_true hn) (i0 := (0, (fun _ => false), fun _ => 0)) ⟨⟨by dsimp only; omega, by dsimp only; omega⟩, fun k hk => by cases hk⟩ hsame
      rintro ⟨j, mh, mv⟩ ⟨hj, hM⟩
      dsimp only at hj hM ⊢
      have hmet : AllB 1 [Blk.mapV MK.str false fun k => (mh k, V.int false .i64 (mv k))] [metI mh mv] := ⟨met_bok mh mv, trivial⟩
      refine ⟨fun _ => ⟨rfl, _, _, [metI mh mv], rfl, rfl, hmet, hq mh mv j⟩, fun hx => ?_⟩
      have hlt : j < m' := by apply Classical.byContradiction; intro h; simp [h] at hx
      generalize f (Int.toNat j) = a
      refine ⟨⟨hj.1, hlt⟩, fun _ => ⟨rfl, _, _, [metI mh mv], rfl, rfl, hmet, hq mh mv j⟩, fun h30 => ?_⟩
      have h30' : j ≠ 30 := fun h => by subst h; simp at h30
      rw [IntWalk.i64_in (j + 1) ⟨by omega, by omega⟩]
      refine ⟨fun _ => ⟨rfl, (j + 1, mh, mv), ⟨⟨by dsimp only; omega, by dsimp only; omega⟩, hM⟩, by dsimp only; omega, rfl, rfl, hmet⟩, fun hc => ?_⟩
      obtain ⟨N, rfl, hN⟩ := ctE_right hc
      obtain ⟨_, e2⟩ := ct_is N hN
      obtain ⟨e3, e4⟩ := cp_tmT N hN
      have hshort := tmT_short N hN
      rw [e2]
      have hcond := clC_cond (cpE (tmT N)) (cpV (tmT N)) (N : Int) (mh (.string ⟨(tmT N).toArray⟩)) (mv (.string ⟨(tmT N).toArray⟩)) e3 e4 (fun hk => by
        obtain ⟨M, hM1, hM2, hM3⟩ := hM _ hk
        have := tmT_inj hN hM1 (str_inj hM2)
        rw [hM3, this])
      refine ⟨by omega, fun hbad => ?_, fun _ => ?_⟩
      · exfalso
        have h3 := hcond.symm.trans hbad
        cases h3
      · refine ⟨rfl, (j + 1, (fun k => bif keyEq k (.string ⟨(tmT N).toArray⟩) then true else mh k), (fun k => bif keyEq k (.string ⟨(tmT N).toArray⟩) then (N : Int) else mv k)), ⟨⟨by dsimp only; omega, by dsimp only; omega⟩, fun k hk => ?_⟩, by dsimp only; omega, rfl, rfl, ?_, trivial⟩
        · dsimp only at hk ⊢
          cases hkey : keyEq k (.string ⟨(tmT N).toArray⟩)
          · rw [hkey] at hk; exact hM k hk
          · refine ⟨N, hN, ?_, rfl⟩
            cases k <;> try (cases hkey; done)
            exact (keyEq_iff (kd := .str) rfl rfl).1 hkey
        · refine BOk.map fun k _ => ⟨?_, fun _ => ?_⟩
          · dsimp only
            cases keyEq k (.string ⟨(tmT N).toArray⟩) <;> rfl
          · dsimp only
            cases keyEq k (.string ⟨(tmT N).toArray⟩) <;> exact ⟨rfl, rfl⟩
  · exact hq.elim
theorem clDG_ok (n : Nat) (g : Nat → List UInt8) : (clDG n g).Ok P := by
  refine lp_ok (by kernel_rfl) fun hin B s Q hq => ?_
  simp only [clDG] at hq hin ⊢
  split at hq
  · rename_i q0 n' g' q2 n2 q3 i0 heq
    cases hn : Nat.beq s.n 1
    · rw [hn] at hq; exact hq.elim
    · rw [hn] at hq
      obtain ⟨⟨⟨rfl, rfl⟩, rfl, rfl⟩, hq⟩ := hq
      have hsame : Same 1 106 [69,70,71] [] s (kCb n' g 0) .nil := by
        refine ⟨by rw [heq], by rw [heq]; rfl, by rw [heq]⟩
      refine loop_view (k := 400) (f := 12) clCE_ok hin (fun i : Int => kCb n' g i) (fun _ => .nil) (fun j => 0 ≤ j ∧ j ≤ 30) (fun j => (30 - j).toNat) Q (fun i => clD_body B n' g i) ?_ (Nat.eq_of_beq_eq_true hn) (i0 := 0) ⟨by omega, by omega⟩ hsame
      intro j hj
      refine ⟨fun _ => ⟨rfl, _, _, rfl, rfl, hq j⟩, fun hx => ?_⟩
      have hlt : j < n' := by apply Classical.byContradiction; intro h; simp [h] at hx
      generalize g (Int.toNat j) = t
      have hlen : (if (60 : Int) < ((List.length t : Nat) : Int) then (60 : Int) else ((List.length t : Nat) : Int)) ≤ 60 ∧ 0 ≤ (if (60 : Int) < ((List.length t : Nat) : Int) then (60 : Int) else ((List.length t : Nat) : Int)) ∧ (if (60 : Int) < ((List.length t : Nat) : Int) then (60 : Int) else ((List.length t : Nat) : Int)) ≤ (List.length t : Nat) := by
        split <;> omega
      generalize (if (60 : Int) < ((List.length t : Nat) : Int) then (60 : Int) else ((List.length t : Nat) : Int)) = e at hlen
      have hr : (List.take (Int.toNat e - 0) (List.drop 0 t)).length ≤ 1000 := by rw [List.length_take]; omega
      generalize List.take (Int.toNat e - 0) (List.drop 0 t) = r at hr
      refine ⟨⟨hj.1, hlt⟩, fun _ => ⟨rfl, _, _, rfl, rfl, hq j⟩, fun h30 => ?_⟩
      have h30' : j ≠ 30 := fun h => by subst h; simp at h30
      rw [IntWalk.i64_in (j + 1) ⟨by omega, by omega⟩]
      refine ⟨⟨hlen.2.1, hlen.2.2⟩, hr, fun _ => ⟨rfl, j + 1, ⟨by omega, by omega⟩, by omega, rfl, rfl⟩, fun hc => ⟨fun _ => ⟨hlen.2.1, hlen.2.2⟩, fun hbad => ?_, fun _ => ⟨rfl, j + 1, ⟨by omega, by omega⟩, by omega, rfl, rfl⟩⟩⟩
      exfalso
      have hb : rtB r = true := by
        unfold cpE at hc
        cases h1 : rtB r
        · rw [h1] at hc; cases hc
        · rfl
      obtain ⟨N, hN, rfl, _⟩ := rtB_true r hb
      obtain ⟨e3, e4⟩ := cp_tmT N hN
      obtain ⟨e1, e2⟩ := ct_is N hN
      have e5 : (tmT N == tmT N) = true := beq_self_eq_true _
      rw [e4, e1, e2, e5] at hbad
      cases hbad
  · exact hq.elim
theorem cread_tree (m : Nat) (f : Nat → Int) (n : Nat) (g : Nat → List UInt8) : evFn (en [c_clk] [clCG n g m f, clDG n g]) 400 12 (.cons (.rsl false 1 m (rowI f)) (.cons (.rsl false 1 n (rowZ g)) .nil)) =
    Tree.need ((n = n ∧ rowZ g = rowZ g) ∧ (m = m ∧ rowI f = rowI f) ∧ (m : Int) = (m : Int) ∧ (0 : Int) = (0 : Int) ∧ ∀ k : Value, false = false) (Tree.all (Value → Bool) fun _ => Tree.all (Value → Int) fun _ => Tree.all Int fun _ => Tree.need ((n = n ∧ rowZ g = rowZ g) ∧ (n : Int) = (n : Int) ∧ (0 : Int) = (0 : Int)) (Tree.all Int fun _ => Tree.leaf (V.bool true true))) := by kernel_rfl
theorem cread_holds (m : Nat) (f : Nat → Int) (n : Nat) (g : Nat → List UInt8) : Tree.Hold P (evFn (en [c_clk] [clCG n g m f, clDG n g]) 400 12 (.cons (.rsl false 1 m (rowI f)) (.cons (.rsl false 1 n (rowZ g)) .nil))) fun r => r.soft = .bool false true := by
  constructor
  rw [cread_tree]
  exact ⟨⟨⟨rfl, rfl⟩, ⟨rfl, rfl⟩, rfl, rfl, fun _ => rfl⟩, fun _ _ _ => ⟨⟨⟨rfl, rfl⟩, rfl, rfl⟩, fun _ => rfl⟩⟩
theorem cread_meets (m : Nat) (f : Nat → Int) (n : Nat) (g : Nat → List UInt8) : Meets P 12 (.cons (.rsl false 1 m (rowI f)) (.cons (.rsl false 1 n (rowZ g)) .nil)) (.bool false true) :=
  meets_true (en_okl (l := [c_clk]) ⟨c_clk_ok, trivial⟩ (ls := [clCG n g m f, clDG n g]) ⟨clCG_ok n g m f, clDG_ok n g, trivial⟩) 400 (Has.of hn Tryd.func12 rfl) (cread_holds m f n g)
end Go.Proofs.YtpeekgekmjldlaaDoor
