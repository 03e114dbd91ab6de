/- CpusetRead: the states of its loops; unlike sets have unlike texts. CpusetRead, all sets: a round of the loop, as the evaluator has it. CpusetRead, the sets: a round of the loop, as the evaluator has it. CpusetRead: its loops. CpusetRead: what it answers. -/
import Derived.Test.YtpeekgekmjldlaaDoorCwT
import Derived.Test.YtpeekgekmjldlaaDoorGwAb
namespace Go.Proofs.YtpeekgekmjldlaaDoor
open Go.Fw
set_option maxRecDepth 100000
/-- Which set's text it is. -/
def unG : List UInt8 → Nat → Bool → Nat → Nat
  | [], _, _, acc => acc
  | b :: l, p, d, acc => bif Nat.beq b.toNat 44 then unG l p false acc else bif Nat.beq b.toNat 45 then unG l p true acc else
    bif d then unG l (b.toNat - 48) false (acc + 2 ^ (b.toNat - 48 + 1) - 2 ^ (p + 1)) else unG l (b.toNat - 48) false (acc + 2 ^ (b.toNat - 48))
def unT (t : List UInt8) : Nat := bif Nat.beq (t.getD 0 0).toNat 110 then 0 else unG t 0 false 0
theorem unT_txt {c : Nat} (hc : c < 256) : unT (txt c) = c := by
  have h := forBelow_of (n := 256) (f := fun c => Nat.beq (unT (txt c)) c) (by kernel_rfl) c hc
  exact Nat.eq_of_beq_eq_true h
theorem txt_inj {a b : Nat} (ha : a < 256) (hb : b < 256) (h : txt a = txt b) : a = b := by
  rw [← unT_txt ha, ← unT_txt hb, h]
theorem txt_short {c : Nat} (hc : c < 256) : (txt c).length ≤ 1000 := by
  have h := forBelow_of (n := 256) (f := fun c => Nat.ble (txt c).length 1000) (by kernel_rfl) c hc
  exact Nat.le_of_ble_eq_true h
theorem prB_txt {c : Nat} (hc : c < 256) : prB (txt c) 256 0 = true ∧ prN (txt c) 256 0 = Int.ofNat c := by
  cases hb : prB (txt c) 256 0
  · exact absurd rfl ((prB_false (txt c) 256 0 hb).2 c (by omega) (by omega))
  · obtain ⟨d, _, hd, e, e2⟩ := prB_true (txt c) 256 0 hb
    rw [txt_inj hd hc e] at e2
    exact ⟨rfl, e2⟩
/-- Among the first sets' texts. -/
def memT (c : Nat) (k : Value) : Bool := Nat.rec false (fun j r => bif keyEq k (.string ⟨(txt j).toArray⟩) then true else r) c
theorem memT_succ (c : Nat) (k : Value) : memT (c + 1) k = (bif keyEq k (.string ⟨(txt c).toArray⟩) then true else memT c k) := rfl
theorem keyEq_str (a b : List UInt8) : keyEq (.string ⟨a.toArray⟩) (.string ⟨b.toArray⟩) = true ↔ a = b := by
  rw [keyEq_iff (kd := .str) rfl rfl]
  constructor
  · intro h
    injection h with h
    injection h with h
    exact Array.toList_inj.2 h
  · intro h; rw [h]
theorem memT_false (t : List UInt8) : ∀ c, (∀ j, j < c → txt j ≠ t) → memT c (.string ⟨t.toArray⟩) = false := by
  intro c
  induction c with
  | zero => intro _; rfl
  | succ c ih =>
    intro h
    rw [memT_succ]
    cases hk : keyEq (.string ⟨t.toArray⟩) (.string ⟨(txt c).toArray⟩)
    · exact ih fun j hj => h j (by omega)
    · exact absurd ((keyEq_str _ _).1 hk).symm (h c (by omega))
def metB (c : Nat) : Blk := .mapV .str false fun k => (memT c k, .bool true true)
abbrev kRa (m : Nat) (f : Nat → Int) (t : List UInt8) (c : Int) : V :=
  .cons (.rsl false 1 m (rowS f)) (.cons (.str false t) (.cons (.mp 0) (.cons (.int false .u32 c) .nil)))
abbrev kRb (m : Nat) (f : Nat → Int) (t : List UInt8) (i : Int) : V :=
  .cons (.str false t) (.cons (.mp 0) (.cons (.rsl false 1 m (rowS f)) (.cons (.int false .i64 m) (.cons (.int false .i64 i) .nil))))
end Go.Proofs.YtpeekgekmjldlaaDoor
namespace Go.Proofs.YtpeekgekmjldlaaDoor
open Go.Fw
set_option maxRecDepth 100000
set_option linter.unusedVariables false
theorem rdA_body (B : Base) (m : Nat) (f : Nat → Int) (t : List UInt8) (c : Nat) : ((ev (en [c_text]) 400 9 (loopAt P 9 5) B (canonG 1 97 [0,1,5,22] [] [0] (kRa m f t c) .nil [metB c])).bind fun x => Tree.leaf (x.1, vwG 1 97 [0,1,5,22] [] [0] x.2)) =
    Tree.node (bif decide ((c : Int) < (256 : Int)) then false else true) (Tree.leaf (Ex.exit (0 : Nat), true, V.cons (V.rsl false (1 : Nat) m fun a => V.cons (V.int false
    IntKind.u32 (f a)) V.nil) (V.cons (V.str false t) (V.cons (V.mp (0 : Nat)) (V.cons (V.int false IntKind.u32 (c : Int)) V.nil))), V.nil, [Blk.mapV MK.str false fun k => (memT c
    k, V.bool true true)])) (Tree.need ((0 : Int) ≤ (c : Int) ∧ (c : Int) < (4294967296 : Int)) (Tree.node (bif bif bif textE (c : Int) != (0 : Int) then true else memT c
    (Value.string (ByteArray.mk (List.toArray (textS (c : Int))))) then true else false then true else false) (Tree.leaf (Ex.ret, true, V.cons (V.rsl false (1 : Nat) m fun a =>
    V.cons (V.int false IntKind.u32 (f a)) V.nil) (V.cons (V.str false t) (V.cons (V.mp (0 : Nat)) (V.cons (V.int false IntKind.u32 (c : Int)) V.nil))), V.nil, [Blk.mapV MK.str
    false fun k => (memT c k, V.bool true true)])) (Tree.leaf (Ex.normal, true, V.cons (V.rsl false (1 : Nat) m fun a => V.cons (V.int false IntKind.u32 (f a)) V.nil) (V.cons
    (V.str false t) (V.cons (V.mp (0 : Nat)) (V.cons (V.int false IntKind.u32 (IntKind.wrap IntKind.u32 ((c : Int) + (1 : Int)))) V.nil))), V.nil, [Blk.mapV MK.str false fun k =>
    bif keyEq k (Value.string (ByteArray.mk (List.toArray (textS (c : Int))))) then (true, V.bool true true) else (memT c k, V.bool true true)])))) := by kernel_rfl
end Go.Proofs.YtpeekgekmjldlaaDoor
namespace Go.Proofs.YtpeekgekmjldlaaDoor
open Go.Fw
set_option maxRecDepth 100000
set_option linter.unusedVariables false
theorem rdB_body (B : Base) (m : Nat) (f : Nat → Int) (t : List UInt8) (i : Int) : ((ev (en [c_text, c_parse]) 400 9 (loopAt P 9 13) B (canonG 1 97 [1,5,40,41,42] [] [0] (kRb m f t i) .nil [metB 256])).bind fun x => Tree.leaf (x.1, vwG 1 97 [1,5,40,41,42] [] [0] x.2)) =
    Tree.node (bif decide (i < (m : Int)) then false else true) (Tree.leaf (Ex.exit (2 : Nat), true, V.cons (V.str false t) (V.cons (V.mp (0 : Nat)) (V.cons (V.rsl false (1 : Nat)
    m fun a => V.cons (V.int false IntKind.u32 (f a)) V.nil) (V.cons (V.int false IntKind.i64 (m : Int)) (V.cons (V.int false IntKind.i64 i) V.nil)))), V.nil, [Blk.mapV MK.str
    false fun k => (memT (256 : Nat) k, V.bool true true)])) (Tree.need ((0 : Int) ≤ i ∧ i < (m : Int)) (Tree.node (bif i == (20 : Int) then true else false) (Tree.leaf (Ex.exit (2
    : Nat), true, V.cons (V.str false t) (V.cons (V.mp (0 : Nat)) (V.cons (V.rsl false (1 : Nat) m fun a => V.cons (V.int false IntKind.u32 (f a)) V.nil) (V.cons (V.int false
    IntKind.i64 (m : Int)) (V.cons (V.int false IntKind.i64 i) V.nil)))), V.nil, [Blk.mapV MK.str false fun k => (memT (256 : Nat) k, V.bool true true)])) (Tree.need ((0 : Int) ≤ f
    (Int.toNat i) ∧ f (Int.toNat i) < (4294967296 : Int)) (Tree.node (bif textE (f (Int.toNat i)) != (0 : Int) then true else false) (Tree.leaf (Ex.normal, true, V.cons (V.str
    false t) (V.cons (V.mp (0 : Nat)) (V.cons (V.rsl false (1 : Nat) m fun a => V.cons (V.int false IntKind.u32 (f a)) V.nil) (V.cons (V.int false IntKind.i64 (m : Int)) (V.cons
    (V.int false IntKind.i64 (IntKind.wrap IntKind.i64 (i + (1 : Int)))) V.nil)))), V.nil, [Blk.mapV MK.str false fun k => (memT (256 : Nat) k, V.bool true true)])) (Tree.need
    (List.length (textS (f (Int.toNat i))) ≤ (1000 : Nat)) (Tree.node (bif bif parE (textS (f (Int.toNat i))) != (0 : Int) then true else prN (textS (f (Int.toNat i))) (256 : Nat)
    (0 : Nat) != f (Int.toNat i) then true else false) (Tree.leaf (Ex.ret, true, V.cons (V.str false t) (V.cons (V.mp (0 : Nat)) (V.cons (V.rsl false (1 : Nat) m fun a => V.cons
    (V.int false IntKind.u32 (f a)) V.nil) (V.cons (V.int false IntKind.i64 (m : Int)) (V.cons (V.int false IntKind.i64 i) V.nil)))), V.nil, [Blk.mapV MK.str false fun k => (memT
    (256 : Nat) k, V.bool true true)])) (Tree.leaf (Ex.normal, true, V.cons (V.str false t) (V.cons (V.mp (0 : Nat)) (V.cons (V.rsl false (1 : Nat) m fun a => V.cons (V.int false
    IntKind.u32 (f a)) V.nil) (V.cons (V.int false IntKind.i64 (m : Int)) (V.cons (V.int false IntKind.i64 (IntKind.wrap IntKind.i64 (i + (1 : Int)))) V.nil)))), V.nil, [Blk.mapV
    MK.str false fun k => (memT (256 : Nat) k, V.bool true true)])))))))) := by kernel_rfl
end Go.Proofs.YtpeekgekmjldlaaDoor
namespace Go.Proofs.YtpeekgekmjldlaaDoor
open Go.Fw
set_option maxRecDepth 100000
set_option linter.unusedVariables false
theorem rdAE_ok : (en [c_text] []).Ok := en_okl (l := [c_text]) ⟨c_text_ok, trivial⟩ (ls := []) trivial
theorem rdBE_ok : (en [c_text, c_parse] []).Ok := en_okl (l := [c_text, c_parse]) ⟨c_text_ok, c_parse_ok, trivial⟩ (ls := []) trivial
noncomputable def rdAG (m : Nat) (f : Nat → Int) (t : List UInt8) : Lp := ⟨9, 5, fun _ s => match vwG 1 97 [0,1,5,22] [] [0] s with
  | (true, .cons (.rsl _ 1 m' f') (.cons (.str _ t') (.cons (.mp 0) (.cons (.int _ .u32 c0) .nil))), .nil, [.mapV .str _ g]) =>
    bif Nat.beq s.n 1 then .need ((m' = m ∧ f' = rowS f) ∧ t' = t ∧ c0 = 0 ∧ ∀ k, (g k).1 = false) (.leaf (.exit 0, canonG 1 97 [0,1,5,22] [] [0] (kRa m f t 256) .nil [metB 256])) else .stuck
  | _ => .stuck⟩
noncomputable def rdBG (m : Nat) (f : Nat → Int) (t : List UInt8) : Lp := ⟨9, 13, fun _ s => match vwG 1 97 [1,5,40,41,42] [] [0] s with
  | (true, .cons (.str _ t') (.cons (.mp 0) (.cons (.rsl _ 1 m' f') (.cons (.int _ .i64 m2) (.cons (.int _ .i64 i0) .nil)))), .nil, [.mapV .str _ g]) =>
    bif Nat.beq s.n 1 then .need (t' = t ∧ (m' = m ∧ f' = rowS f) ∧ m2 = m ∧ i0 = 0 ∧ g = fun k => (memT 256 k, .bool true true)) (.all Int fun i => .leaf (.exit 2, canonG 1 97 [1,5,40,41,42] [] [0] (kRb m f t i) .nil [metB 256])) else .stuck
  | _ => .stuck⟩
theorem met_ok (c : Nat) : BOk 1 (metB c) (metB c) := BOk.map fun k _ => ⟨rfl, fun _ => ⟨rfl, rfl⟩⟩
theorem textE_small {c : Nat} (h : c < 256) : textE (c : Int) = 0 ∧ textS (c : Int) = txt c := by
  unfold textE textS
  rw [decide_eq_true (by omega : (c : Int) < 256)]
  exact ⟨rfl, rfl⟩
theorem rdAG_ok (m : Nat) (f : Nat → Int) (t : List UInt8) : (rdAG m f t).Ok P := by
  refine lp_ok (by kernel_rfl) fun hin B s Q hq => ?_
  simp only [rdAG] at hq hin ⊢
  split at hq
  · rename_i q0 m' f' q1 t' q2 c0 q3 g heq
    cases hn : Nat.beq s.n 1
    · rw [hn] at hq; exact hq.elim
    · rw [hn] at hq
      obtain ⟨⟨⟨rfl, rfl⟩, rfl, rfl, hg⟩, hq⟩ := hq
      have hsame : SameG 1 97 [0,1,5,22] [] [0] s (kRa m' f t' (0 : Nat)) .nil [metB 0] := by
        refine ⟨by rw [heq], by rw [heq]; rfl, by rw [heq], by rw [heq]; exact ⟨BOk.map fun k _ => ⟨by rw [hg k]; rfl, fun h => by rw [hg k] at h; cases h⟩, trivial⟩⟩
      refine loop_viewG (k := 400) (f := 9) rdAE_ok hin (fun c : Nat => kRa m' f t' c) (fun _ => .nil) (fun c => [metB c]) (fun c => c ≤ 256) (fun c => 256 - c) Q (fun c => rdA_body B m' f t' c) ?_ (Nat.eq_of_beq_eq_true hn) (i0 := 0) (by omega) hsame
      intro c hc
      refine ⟨fun hx => ?_, fun hx => ⟨⟨by omega, by omega⟩, ?_⟩⟩
      · have e : c = 256 := by
          apply Classical.byContradiction; intro h
          rw [decide_eq_true (by omega : (c : Int) < 256)] at hx; cases hx
        subst e
        exact ⟨rfl, _, _, [metB 256], rfl, rfl, ⟨met_ok 256, trivial⟩, hq⟩
      · have hlt : c < 256 := by
          apply Classical.byContradiction; intro h
          rw [decide_eq_false (by omega : ¬ (c : Int) < 256)] at hx; cases hx
        obtain ⟨e1, e2⟩ := textE_small hlt
        rw [e1, e2]
        have hm : memT c (.string ⟨(txt c).toArray⟩) = false := memT_false (txt c) c fun j hj h => by have := txt_inj (by omega) hlt h; omega
        refine ⟨fun hc => ?_, fun _ => ?_⟩
        · rw [hm] at hc; cases hc
        · have hw : IntKind.wrap .u32 ((c : Int) + 1) = ((c + 1 : Nat) : Int) := by
            have h : IntKind.wrap .u32 ((c : Int) + 1) = ((c : Int) + 1) % 4294967296 := by unfold IntKind.wrap; simp [IntKind.signed, IntKind.bits]
            rw [h]; omega
          rw [hw]
          refine ⟨rfl, c + 1, by omega, by omega, rfl, rfl, ?_, trivial⟩
          refine BOk.map fun k _ => ⟨?_, fun _ => ?_⟩
          · rw [memT_succ]
            cases keyEq k (.string ⟨(txt c).toArray⟩) <;> rfl
          · cases keyEq k (.string ⟨(txt c).toArray⟩) <;> exact ⟨rfl, rfl⟩
  · exact hq.elim
theorem rdBG_ok (m : Nat) (f : Nat → Int) (t : List UInt8) (hf : ∀ j, j < m → 0 ≤ f j ∧ f j < 4294967296) : (rdBG m f t).Ok P := by
  refine lp_ok (by kernel_rfl) fun hin B s Q hq => ?_
  simp only [rdBG] at hq hin ⊢
  split at hq
  · rename_i q0 t' q1 m' f' q2 m2 q3 i0 q4 g heq
    cases hn : Nat.beq s.n 1
    · rw [hn] at hq; exact hq.elim
    · rw [hn] at hq
      obtain ⟨⟨rfl, ⟨rfl, rfl⟩, rfl, rfl, rfl⟩, hq⟩ := hq
      have hsame : SameG 1 97 [1,5,40,41,42] [] [0] s (kRb m' f t' 0) .nil [metB 256] := by
        refine ⟨by rw [heq], by rw [heq]; rfl, by rw [heq], by rw [heq]; exact ⟨BOk.map fun k _ => ⟨rfl, fun _ => ⟨rfl, rfl⟩⟩, trivial⟩⟩
      refine loop_viewG (k := 400) (f := 9) rdBE_ok hin (fun i : Int => kRb m' f t' i) (fun _ => .nil) (fun _ => [metB 256]) (fun j => 0 ≤ j ∧ j ≤ 20) (fun j => (20 - j).toNat) Q (fun i => rdB_body B m' f t' i) ?_ (Nat.eq_of_beq_eq_true hn) (i0 := 0) ⟨by omega, by omega⟩ hsame
      intro j hj
      have hmet : AllB 1 [Blk.mapV MK.str false fun k => (memT 256 k, V.bool true true)] [metB 256] := ⟨met_ok 256, trivial⟩
      refine ⟨fun _ => ⟨rfl, _, _, [metB 256], rfl, rfl, hmet, hq j⟩, fun hx => ?_⟩
      have hlt : j < m' := by apply Classical.byContradiction; intro h; simp [h] at hx
      have hr := hf j.toNat (by omega)
      generalize f (Int.toNat j) = a at hr
      refine ⟨⟨hj.1, hlt⟩, fun _ => ⟨rfl, _, _, [metB 256], rfl, rfl, hmet, hq j⟩, fun h20 => ⟨hr, ?_⟩⟩
      have h20' : j ≠ 20 := fun h => by subst h; simp at h20
      rw [IntWalk.i64_in (j + 1) ⟨by omega, by omega⟩]
      have hnext : ∃ i' : Int, (0 ≤ i' ∧ i' ≤ 20) ∧ (20 - i').toNat < (20 - j).toNat ∧ i' = j + 1 := ⟨j + 1, ⟨by omega, by omega⟩, by omega, rfl⟩
      refine ⟨fun _ => ⟨rfl, j + 1, ⟨by omega, by omega⟩, by omega, rfl, rfl, hmet⟩, fun hc => ?_⟩
      have ha : a < 256 := by
        apply Classical.byContradiction; intro h
        unfold textE at hc
        rw [decide_eq_false h] at hc; cases hc
      have e : textS a = txt a.toNat := by unfold textS; rw [decide_eq_true ha]; rfl
      have hb := prB_txt (c := a.toNat) (by omega)
      rw [e]
      have e3 : Int.ofNat a.toNat = a := Int.toNat_of_nonneg hr.1
      refine ⟨txt_short (by omega), fun hbad => ?_, fun _ => ⟨rfl, j + 1, ⟨by omega, by omega⟩, by omega, rfl, rfl, hmet⟩⟩
      exfalso
      unfold parE at hbad
      rw [hb.1, hb.2, e3] at hbad
      simp at hbad
  · exact hq.elim
end Go.Proofs.YtpeekgekmjldlaaDoor
namespace Go.Proofs.YtpeekgekmjldlaaDoor
open Go.Fw
set_option maxRecDepth 100000
set_option linter.unusedVariables false
theorem read_tree (m : Nat) (f : Nat → Int) (t : List UInt8) : evFn (en [c_sets, c_text, c_parse] [rdAG m f t, rdBG m f t]) 400 9 (.cons (.rsl false 1 m (rowS f)) (.cons (.str false t) .nil)) =
    Tree.need ((m = m ∧ rowS f = rowS f) ∧ t = t ∧ (0 : Int) = (0 : Int) ∧ ∀ (k : Value), false = false) (Tree.need (t = t ∧ (m = m ∧ rowS f = rowS f) ∧ (m : Int) = (m : Int) ∧ (0
    : Int) = (0 : Int) ∧ (fun k => (memT (256 : Nat) k, V.bool true true)) = fun k => (memT (256 : Nat) k, V.bool true true)) (Tree.all Int fun x => Tree.need (((0 : Int) ≤ if (60
    : Int) < ((List.length t : Nat) : Int) then (60 : Int) else ((List.length t : Nat) : Int)) ∧ (if (60 : Int) < ((List.length t : Nat) : Int) then (60 : Int) else ((List.length t
    : Nat) : Int)) ≤ ((List.length t : Nat) : Int)) (Tree.need (List.length (List.take (Int.toNat (if (60 : Int) < ((List.length t : Nat) : Int) then (60 : Int) else ((List.length
    t : Nat) : Int)) - (0 : Nat)) (List.drop (0 : Nat) t)) ≤ (1000 : Nat)) (Tree.node (bif parE (List.take (Int.toNat (if (60 : Int) < ((List.length t : Nat) : Int) then (60 : Int)
    else ((List.length t : Nat) : Int)) - (0 : Nat)) (List.drop (0 : Nat) t)) != (0 : Int) then true else false) (Tree.leaf (V.bool false !memT (256 : Nat) (Value.string
    (ByteArray.mk (List.toArray (List.take (Int.toNat (if (60 : Int) < ((List.length t : Nat) : Int) then (60 : Int) else ((List.length t : Nat) : Int)) - (0 : Nat)) (List.drop (0
    : Nat) t))))))) (Tree.need ((0 : Int) ≤ prN (List.take (Int.toNat (if (60 : Int) < ((List.length t : Nat) : Int) then (60 : Int) else ((List.length t : Nat) : Int)) - (0 :
    Nat)) (List.drop (0 : Nat) t)) (256 : Nat) (0 : Nat) ∧ prN (List.take (Int.toNat (if (60 : Int) < ((List.length t : Nat) : Int) then (60 : Int) else ((List.length t : Nat) :
    Int)) - (0 : Nat)) (List.drop (0 : Nat) t)) (256 : Nat) (0 : Nat) < (4294967296 : Int)) (Tree.leaf (V.bool false (bif textE (prN (List.take (Int.toNat (if (60 : Int) <
    ((List.length t : Nat) : Int) then (60 : Int) else ((List.length t : Nat) : Int)) - (0 : Nat)) (List.drop (0 : Nat) t)) (256 : Nat) (0 : Nat)) == (0 : Int) then textS (prN
    (List.take (Int.toNat (if (60 : Int) < ((List.length t : Nat) : Int) then (60 : Int) else ((List.length t : Nat) : Int)) - (0 : Nat)) (List.drop (0 : Nat) t)) (256 : Nat) (0 :
    Nat)) == List.take (Int.toNat (if (60 : Int) < ((List.length t : Nat) : Int) then (60 : Int) else ((List.length t : Nat) : Int)) - (0 : Nat)) (List.drop (0 : Nat) t) else
    false)))))))) := by kernel_rfl
theorem read_holds (m : Nat) (f : Nat → Int) (t : List UInt8) : Tree.Hold P (evFn (en [c_sets, c_text, c_parse] [rdAG m f t, rdBG m f t]) 400 9 (.cons (.rsl false 1 m (rowS f)) (.cons (.str false t) .nil))) fun r => r.soft = .bool false true := by
  constructor
  rw [read_tree]
  have hlen : (if (60 : Int) < ((List.length t : Nat) : Int) then (60 : Int) else ((List.length t : Nat) : Int)) ≤ 60 ∧ 0 ≤ (if (60 : Int) < ((List.length t : Nat) : Int) then (60 : Int) else ((List.length t : Nat) : Int)) ∧ (if (60 : Int) < ((List.length t : Nat) : Int) then (60 : Int) else ((List.length t : Nat) : Int)) ≤ (List.length t : Nat) := by
    split <;> omega
  generalize (if (60 : Int) < ((List.length t : Nat) : Int) then (60 : Int) else ((List.length t : Nat) : Int)) = e at hlen
  have hr : (List.take (Int.toNat e - 0) (List.drop 0 t)).length ≤ 1000 := by rw [List.length_take]; omega
  generalize List.take (Int.toNat e - 0) (List.drop 0 t) = r at hr
  refine ⟨⟨⟨rfl, rfl⟩, rfl, rfl, fun _ => rfl⟩, ⟨rfl, ⟨rfl, rfl⟩, rfl, rfl, rfl⟩, fun _ => ⟨⟨hlen.2.1, hlen.2.2⟩, hr, fun hc => ?_, fun hc => ?_⟩⟩
  · unfold parE at hc
    cases hb : prB r 256 0
    · have h := memT_false r 256 fun j hj => (prB_false r 256 0 hb).2 j (by omega) (by omega)
      rw [h]; rfl
    · rw [hb] at hc; cases hc
  · unfold parE at hc
    cases hb : prB r 256 0
    · rw [hb] at hc; cases hc
    · obtain ⟨c, _, hc, rfl, e⟩ := prB_true r 256 0 hb
      rw [e]
      have h1 := textE_small (c := c) (by omega)
      refine ⟨⟨by show (0 : Int) ≤ (c : Int); omega, by show (c : Int) < 4294967296; omega⟩, ?_⟩
      show V.bool false (bif textE (c : Int) == 0 then textS (c : Int) == txt c else false) = _
      rw [h1.1, h1.2]
      have e2 : (txt c == txt c) = true := beq_self_eq_true _
      rw [e2]; rfl
theorem read_meets (m : Nat) (f : Nat → Int) (t : List UInt8) (hf : ∀ j, j < m → 0 ≤ f j ∧ f j < 4294967296) : Meets P 9 (.cons (.rsl false 1 m (rowS f)) (.cons (.str false t) .nil)) (.bool false true) :=
  meets_true (en_okl (l := [c_sets, c_text, c_parse]) ⟨c_sets_ok, c_text_ok, c_parse_ok, trivial⟩ (ls := [rdAG m f t, rdBG m f t]) ⟨rdAG_ok m f t, rdBG_ok m f t hf, trivial⟩) 400 (Has.of hn Tryd.func9 rfl) (read_holds m f t)
end Go.Proofs.YtpeekgekmjldlaaDoor
