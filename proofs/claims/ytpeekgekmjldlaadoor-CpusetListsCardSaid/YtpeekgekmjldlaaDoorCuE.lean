/- CpusetLists: its families of states, and plain facts of all sets. CpusetLists, within a list: a round of the loop, as the evaluator has it. CpusetLists: its inner loop. CpusetLists, within the sets: a round of the loop, as the evaluator has it. CpusetLists: its outer loop, and what it answers. -/
import Derived.Test.YtpeekgekmjldlaaDoorCcP
import Derived.Test.YtpeekgekmjldlaaDoorCsG
namespace Go.Proofs.YtpeekgekmjldlaaDoor
open Go.Fw
set_option maxRecDepth 100000
/-- Within a set's list: the set, the number before, the row of sets, where it stands, the list, where it stands. -/
abbrev kLi (m : Nat) (f : Nat → Int) (i a : Int) (l : List Int) (af k : Int) : V :=
  .cons (.int false .u32 a) (.cons (.int false .i64 af) (.cons (.rsl false 1 m (rowS f)) (.cons (.int false .i64 m) (.cons (.int false .i64 i) (.cons (rowL l) (.cons (.int false .i64 l.length) (.cons (.int false .i64 k) .nil)))))))
/-- Within the sets. -/
abbrev kLo (m : Nat) (f : Nat → Int) (i : Int) : V :=
  .cons (.rsl false 1 m (rowS f)) (.cons (.int false .i64 m) (.cons (.int false .i64 i) .nil))
/-- The number before a place of a list. -/
def aft (l : List Int) (k : Nat) : Int := bif Nat.beq k 0 then -1 else l.getD (k - 1) 0
def orP (s x : Int) : Int := IntKind.wrap .u32 ((BitVec.ofInt (IntKind.bits .u32) s ||| BitVec.ofInt (IntKind.bits .u32) (uBit_0_p x)).toNat : Int)
def setP' (g : Nat → Int) (n : Nat) : Int := Nat.rec 0 (fun k s => orP s (g k)) n
def badP' (g : Nat → Int) (n : Nat) : Bool := Nat.rec false (fun k r => r || (uBit_0_p (g k) == 0)) n
theorem setU_pe (g : Nat → Int) (n : Nat) : setU g n = setP' g n := by
  induction n with
  | zero => rfl
  | succ n ih => show orS (setU g n) (g n) = orP (setP' g n) (g n); rw [ih]; unfold orS orP; rw [uBit_0_pe]
theorem badU_pe (g : Nat → Int) (n : Nat) : badU g n = badP' g n := by
  induction n with
  | zero => rfl
  | succ n ih => show (badU g n || (uBit_0 (g n) == 0)) = (badP' g n || (uBit_0_p (g n) == 0)); rw [ih, uBit_0_pe]
def listsOk (c : Nat) : Bool :=
  let l := lst c
  (forBelow l.length fun k => (nxB l (aft l k) && (nxI l (aft l k) == l.getD k 0)) && uHas_0_p (Int.ofNat c) (l.getD k 0)) &&
  ((!nxB l (aft l l.length) && (!badP' (fun j => l.getD j 0) l.length && (setP' (fun j => l.getD j 0) l.length == Int.ofNat c))) &&
  forBelow (l.length - 1) fun k => decide (l.getD k 0 ≤ l.getD (k + 1) 0))
theorem lists_all : ∀ c, c < 256 → listsOk c = true := forBelow_of (by kernel_rfl)
end Go.Proofs.YtpeekgekmjldlaaDoor
namespace Go.Proofs.YtpeekgekmjldlaaDoor
open Go.Fw
set_option maxRecDepth 100000
set_option linter.unusedVariables false
theorem lists_body (B : Base) (m : Nat) (f : Nat → Int) (i a : Int) (l : List Int) (af k : Int) : ((ev (en [c_next, c_uHas] []) 400 16 (loopAt P 16 14) B (canon 0 90 [4,8,17,18,19,55,56,57] [] (kLi m f i a l af k) .nil)).bind fun x => Tree.leaf (x.1, vw 0 90 [4,8,17,18,19,55,56,57] [] x.2)) =
    Tree.node (bif decide (k < ((List.length l : Nat) : Int)) then false else true) (Tree.leaf (Ex.exit (2 : Nat), true, V.cons (V.int false IntKind.u32 a) (V.cons (V.int false
    IntKind.i64 af) (V.cons (V.rsl false (1 : Nat) m fun a => V.cons (V.int false IntKind.u32 (f a)) V.nil) (V.cons (V.int false IntKind.i64 (m : Int)) (V.cons (V.int false
    IntKind.i64 i) (V.cons (V.rsl false (1 : Nat) (List.length l) fun j => V.cons (V.int false IntKind.i64 (List.getD l j (0 : Int))) V.nil) (V.cons (V.int false IntKind.i64
    ((List.length l : Nat) : Int)) (V.cons (V.int false IntKind.i64 k) V.nil))))))), V.nil)) (Tree.need ((0 : Int) ≤ k ∧ k < ((List.length l : Nat) : Int)) (Tree.node (bif bif bif
    !nxB (lst (lowN a)) af then true else bif nxI (lst (lowN a)) af != List.getD l (Int.toNat k) (0 : Int) then true else !uHas_0 a (List.getD l (Int.toNat k) (0 : Int)) then true
    else false then true else false) (Tree.leaf (Ex.ret, true, V.cons (V.int false IntKind.u32 a) (V.cons (V.int false IntKind.i64 af) (V.cons (V.rsl false (1 : Nat) m fun a =>
    V.cons (V.int false IntKind.u32 (f a)) V.nil) (V.cons (V.int false IntKind.i64 (m : Int)) (V.cons (V.int false IntKind.i64 i) (V.cons (V.rsl false (1 : Nat) (List.length l) fun
    j => V.cons (V.int false IntKind.i64 (List.getD l j (0 : Int))) V.nil) (V.cons (V.int false IntKind.i64 ((List.length l : Nat) : Int)) (V.cons (V.int false IntKind.i64 k)
    V.nil))))))), V.nil)) (Tree.leaf (Ex.normal, true, V.cons (V.int false IntKind.u32 a) (V.cons (V.int false IntKind.i64 (nxI (lst (lowN a)) af)) (V.cons (V.rsl false (1 : Nat) m
    fun a => V.cons (V.int false IntKind.u32 (f a)) V.nil) (V.cons (V.int false IntKind.i64 (m : Int)) (V.cons (V.int false IntKind.i64 i) (V.cons (V.rsl false (1 : Nat)
    (List.length l) fun j => V.cons (V.int false IntKind.i64 (List.getD l j (0 : Int))) V.nil) (V.cons (V.int false IntKind.i64 ((List.length l : Nat) : Int)) (V.cons (V.int false
    IntKind.i64 (IntKind.wrap IntKind.i64 (k + (1 : Int)))) V.nil))))))), V.nil)))) := by kernel_rfl
end Go.Proofs.YtpeekgekmjldlaaDoor
namespace Go.Proofs.YtpeekgekmjldlaaDoor
open Go.Fw
set_option maxRecDepth 100000

theorem lowN_small {a : Int} (h0 : 0 ≤ a) (h1 : a < 256) : lowN a = a.toNat := by
  have := lowN_mod h0 (by omega)
  omega
theorem lst_len8 (c : Nat) : (lst c).length ≤ 8 := by
  unfold lst
  rw [List.length_map]
  exact Nat.le_trans (List.length_filter_le _ _) (by simp)
structure ListFacts (a : Int) (l : List Int) : Prop where
  short : l.length ≤ 8
  next : ∀ k, k < l.length → nxB l (aft l k) = true ∧ nxI l (aft l k) = l.getD k 0 ∧ uHas_0 a (l.getD k 0) = true
  last : nxB l (aft l l.length) = false
  of : ofA (fun j => l.getD j 0) l.length = a ∧ ofE (fun j => l.getD j 0) l.length = 0
  rise : ∀ k, k + 1 < l.length → l.getD k 0 ≤ l.getD (k + 1) 0
theorem list_facts {a : Int} (h0 : 0 ≤ a) (h1 : a < 256) : ListFacts a (lst (lowN a)) := by
  have hl := lowN_small h0 h1
  have hc := lists_all (lowN a) (lowN_lt a)
  have ha : Int.ofNat (lowN a) = a := by rw [hl]; exact Int.toNat_of_nonneg h0
  unfold listsOk at hc
  generalize hL : lst (lowN a) = l at hc
  simp only [Bool.and_eq_true] at hc
  obtain ⟨hn, ⟨hlast, hb, hs⟩, hr⟩ := hc
  refine ⟨by rw [← hL]; exact lst_len8 _, fun k hk => ?_, by simpa using hlast, ?_, fun k hk => ?_⟩
  · have := forBelow_of hn k hk
    simp only [Bool.and_eq_true, beq_iff_eq] at this
    exact ⟨this.1.1, this.1.2, by rw [uHas_0_pe, ← ha]; exact this.2⟩
  · have hb' : badP' (fun j => l.getD j 0) l.length = false := by simpa using hb
    unfold ofA ofE
    rw [badU_pe, hb', setU_pe]
    exact ⟨(eq_of_beq hs).trans ha, rfl⟩
  · exact of_decide_eq_true (forBelow_of hr k (by omega))
theorem listsE_ok : (en [c_next, c_uHas]).Ok := en_ok (l := [c_next, c_uHas]) ⟨c_next_ok, c_uHas_ok, trivial⟩
noncomputable def listsG (m : Nat) (f : Nat → Int) : Lp := ⟨16, 14, fun _ s => match vw 0 90 [4,8,17,18,19,55,56,57] [] s with
  | (true, .cons (.int _ .u32 a) (.cons (.int _ .i64 af) (.cons (.rsl _ 1 m1 f1) (.cons (.int _ .i64 m2) (.cons (.int _ .i64 i) (.cons (.rsl _ 1 n1 g1) (.cons (.int _ .i64 n2) (.cons (.int _ .i64 k0) .nil))))))), .nil) =>
    bif Nat.beq s.n 0 then .need (((m1 = m ∧ f1 = rowS f) ∧ m2 = m) ∧ (af = -1 ∧ k0 = 0 ∧ n2 = n1) ∧ (n1 = (lst (lowN a)).length ∧ g1 = fun j => .cons (.int false .i64 ((lst (lowN a)).getD j 0)) .nil) ∧ 0 ≤ a ∧ a < 256)
      (.leaf (.exit 2, canon 0 90 [4,8,17,18,19,55,56,57] [] (kLi m f i a (lst (lowN a)) (aft (lst (lowN a)) (lst (lowN a)).length) (lst (lowN a)).length) .nil)) else .stuck
  | _ => .stuck⟩
theorem listsG_ok (m : Nat) (f : Nat → Int) : (listsG m f).Ok P := by
  refine lp_ok (by kernel_rfl) fun hin B s Q hq => ?_
  simp only [listsG] at hq hin ⊢
  split at hq
  · rename_i q0 a q1 af q2 m1 f1 q3 m2 q4 i q5 n1 g1 q6 n2 q7 k0 heq
    cases hn : Nat.beq s.n 0
    · rw [hn] at hq; exact hq.elim
    · rw [hn] at hq
      obtain ⟨⟨⟨⟨rfl, rfl⟩, rfl⟩, ⟨rfl, rfl, rfl⟩, ⟨rfl, rfl⟩, ha0, ha1⟩, hq⟩ := hq
      have hF := list_facts ha0 ha1
      have hsame : Same 0 90 [4,8,17,18,19,55,56,57] [] s (kLi m1 f i a (lst (lowN a)) (-1) 0) .nil := by
        refine ⟨by rw [heq], by rw [heq]; rfl, by rw [heq]⟩
      refine loop_view (k := 400) (f := 16) listsE_ok hin (fun k : Int => kLi m1 f i a (lst (lowN a)) (aft (lst (lowN a)) k.toNat) k) (fun _ => .nil) (fun k => 0 ≤ k ∧ k ≤ (lst (lowN a)).length) (fun k => (((lst (lowN a)).length : Int) - k).toNat) Q
        (fun k => lists_body B m1 f i a (lst (lowN a)) (aft (lst (lowN a)) k.toNat) k) ?_ (Nat.eq_of_beq_eq_true hn) (i0 := 0) ⟨by omega, by omega⟩ hsame
      generalize lst (lowN a) = l at hF hq ⊢
      intro k hk
      refine ⟨fun hx => ?_, fun hx => ?_⟩
      · have e : k = l.length := by
          apply Classical.byContradiction; intro h
          have : k < l.length := by omega
          simp [this] at hx
        have e2 : k.toNat = l.length := by omega
        refine ⟨rfl, _, _, rfl, rfl, ?_⟩
        rw [e2, e]
        exact hq
      have hlt : k < l.length := by apply Classical.byContradiction; intro h; simp [h] at hx
      obtain ⟨f1, f2, f3⟩ := hF.next k.toNat (by omega)
      have hs := hF.short
      refine ⟨⟨hk.1, hlt⟩, fun hbad => ?_, fun _ => ?_⟩
      · exfalso
        rw [f1, f2, f3] at hbad
        have e : (l.getD (Int.toNat k) 0 != l.getD (Int.toNat k) 0) = false := by simp
        rw [e] at hbad; cases hbad
      · rw [IntWalk.i64_in (k + 1) ⟨by omega, by omega⟩]
        have e1 : (k + 1).toNat = k.toNat + 1 := by omega
        refine ⟨rfl, k + 1, ⟨by omega, by omega⟩, by omega, ?_, rfl⟩
        rw [f2, e1]
        rfl
  · exact hq.elim
end Go.Proofs.YtpeekgekmjldlaaDoor
namespace Go.Proofs.YtpeekgekmjldlaaDoor
open Go.Fw
set_option maxRecDepth 100000
set_option linter.unusedVariables false
theorem listsO_body (B: Base) (m : Nat) (f : Nat → Int) (i : Int) : ((ev (en [c_uCheck, c_list, c_of, c_sorted, c_uCount, c_next] [listsG m f]) 400 16 (loopAt P 16 4) B (canon 0 90 [17,18,19]
    [] (kLo m f i) .nil)).bind fun x => Tree.leaf (x.1, vw 0 90 [17,18,19] [] x.2)) = Tree.node (bif decide (i < (m : Int)) then false else true) (Tree.leaf (Ex.exit (0 :
    Nat), true, V.cons (V.rsl false (1 : Nat) m fun a => V.cons (V.int false IntKind.u32 (f a)) V.nil) (V.cons (V.int false IntKind.i64 (m : Int)) (V.cons (V.int false
    IntKind.i64 i) V.nil)), V.nil)) (Tree.need ((0 : Int) ≤ i ∧ i < (m : Int)) (Tree.node (bif i == (20 : Int) then true else false) (Tree.leaf (Ex.exit (0 : Nat), true,
    V.cons (V.rsl false (1 : Nat) m fun a => V.cons (V.int false IntKind.u32 (f a)) V.nil) (V.cons (V.int false IntKind.i64 (m : Int)) (V.cons (V.int false IntKind.i64 i)
    V.nil)), V.nil)) (Tree.node (bif uCheck_0 (f (Int.toNat i)) != (0 : Int) then true else false) (Tree.leaf (Ex.normal, true, V.cons (V.rsl false (1 : Nat) m fun a =>
    V.cons (V.int false IntKind.u32 (f a)) V.nil) (V.cons (V.int false IntKind.i64 (m : Int)) (V.cons (V.int false IntKind.i64 (IntKind.wrap IntKind.i64 (i + (1 : Int))))
    V.nil)), V.nil)) (Tree.need (((fun j => (V.cons (V.int false IntKind.i64 (List.getD (lst (lowN (f (Int.toNat i)))) j (0 : Int))) V.nil)) = rowN fun j => (List.getD
    (lst (lowN (f (Int.toNat i)))) j (0 : Int))) ∧ ((List.length (lst (lowN (f (Int.toNat i)))) : Nat) : Int) < (4611686018427387904 : Int)) (Tree.need ((ofE (fun j =>
    (List.getD (lst (lowN (f (Int.toNat i)))) j (0 : Int))) (List.length (lst (lowN (f (Int.toNat i))))) != (0 : Int)) = false → (ofA (fun j => (List.getD (lst (lowN (f
    (Int.toNat i)))) j (0 : Int))) (List.length (lst (lowN (f (Int.toNat i))))) != f (Int.toNat i)) = false → ∃ h : Nat → Int, (fun j => (V.cons (V.int false IntKind.i64
    (List.getD (lst (lowN (f (Int.toNat i)))) j (0 : Int))) V.nil)) = rowN h ∧ ((List.length (lst (lowN (f (Int.toNat i)))) : Nat) : Int) < (4611686018427387904 : Int) ∧
    ∀ (j : Int), (0 : Int) < j → j < ((List.length (lst (lowN (f (Int.toNat i)))) : Nat) : Int) → h (Int.toNat (j - (1 : Int))) ≤ h (Int.toNat j)) (Tree.node (bif bif ofE
    (fun j => (List.getD (lst (lowN (f (Int.toNat i)))) j (0 : Int))) (List.length (lst (lowN (f (Int.toNat i))))) != (0 : Int) then true else bif ofA (fun j =>
    (List.getD (lst (lowN (f (Int.toNat i)))) j (0 : Int))) (List.length (lst (lowN (f (Int.toNat i))))) != f (Int.toNat i) then true else bif !true then true else
    ((List.length (lst (lowN (f (Int.toNat i)))) : Nat) : Int) != uCount_0 (f (Int.toNat i)) then true else false) (Tree.leaf (Ex.ret, true, V.cons (V.rsl false (1 : Nat)
    m fun a => V.cons (V.int false IntKind.u32 (f a)) V.nil) (V.cons (V.int false IntKind.i64 (m : Int)) (V.cons (V.int false IntKind.i64 i) V.nil)), V.nil)) (Tree.need
    (((m = m ∧ rowS f = rowS f) ∧ (m : Int) = (m : Int)) ∧ ((-1 : Int) = (-1 : Int) ∧ (0 : Int) = (0 : Int) ∧ ((List.length (lst (lowN (f (Int.toNat i)))) : Nat) : Int) =
    ((List.length (lst (lowN (f (Int.toNat i)))) : Nat) : Int)) ∧ (List.length (lst (lowN (f (Int.toNat i)))) = List.length (lst (lowN (f (Int.toNat i)))) ∧ (fun j =>
    V.cons (V.int false IntKind.i64 (List.getD (lst (lowN (f (Int.toNat i)))) j (0 : Int))) V.nil) = fun j => V.cons (V.int false IntKind.i64 (List.getD (lst (lowN (f
    (Int.toNat i)))) j (0 : Int))) V.nil) ∧ (0 : Int) ≤ f (Int.toNat i) ∧ f (Int.toNat i) < (256 : Int)) (Tree.node (bif nxB (lst (lowN (f (Int.toNat i)))) (aft (lst
    (lowN (f (Int.toNat i)))) (List.length (lst (lowN (f (Int.toNat i)))))) then true else false) (Tree.leaf (Ex.ret, true, V.cons (V.rsl false (1 : Nat) m fun a =>
    V.cons (V.int false IntKind.u32 (f a)) V.nil) (V.cons (V.int false IntKind.i64 (m : Int)) (V.cons (V.int false IntKind.i64 i) V.nil)), V.nil)) (Tree.leaf (Ex.normal,
    true, V.cons (V.rsl false (1 : Nat) m fun a => V.cons (V.int false IntKind.u32 (f a)) V.nil) (V.cons (V.int false IntKind.i64 (m : Int)) (V.cons (V.int false
    IntKind.i64 (IntKind.wrap IntKind.i64 (i + (1 : Int)))) V.nil)), V.nil)))))))))) := by kernel_rfl
end Go.Proofs.YtpeekgekmjldlaaDoor
namespace Go.Proofs.YtpeekgekmjldlaaDoor
open Go.Fw
set_option maxRecDepth 100000

theorem listsOE_ok (m : Nat) (f : Nat → Int) : (en [c_uCheck, c_list, c_of, c_sorted, c_uCount, c_next] [listsG m f]).Ok :=
  en_okl (l := [c_uCheck, c_list, c_of, c_sorted, c_uCount, c_next]) ⟨c_uCheck_ok, c_list_ok, c_of_ok, c_sorted_ok, c_uCount_ok, c_next_ok, trivial⟩ (ls := [listsG m f]) ⟨listsG_ok m f, trivial⟩
noncomputable def listsOG (m : Nat) (f : Nat → Int) : Lp := ⟨16, 4, fun _ s => match vw 0 90 [17,18,19] [] s with
  | (true, .cons (.rsl _ 1 m' f') (.cons (.int _ .i64 m2) (.cons (.int _ .i64 i0) .nil)), .nil) =>
    bif Nat.beq s.n 0 then .need ((m' = m ∧ f' = rowS f) ∧ m2 = m ∧ i0 = 0) (.all Int fun i => .leaf (.exit 0, canon 0 90 [17,18,19] [] (kLo m f i) .nil)) else .stuck
  | _ => .stuck⟩
theorem listsOG_ok (m : Nat) (f : Nat → Int) (hf : ∀ j, j < m → 0 ≤ f j ∧ f j < 4294967296) : (listsOG m f).Ok P := by
  refine lp_ok (by kernel_rfl) fun hin B s Q hq => ?_
  simp only [listsOG] at hq hin ⊢
  split at hq
  · rename_i q2 m' f' q3 m2 q4 i0 heq
    cases hn : Nat.beq s.n 0
    · rw [hn] at hq; exact hq.elim
    · rw [hn] at hq
      obtain ⟨⟨⟨rfl, rfl⟩, rfl, rfl⟩, hq⟩ := hq
      have hsame : Same 0 90 [17,18,19] [] s (kLo m' f 0) .nil := by
        refine ⟨by rw [heq], by rw [heq]; rfl, by rw [heq]⟩
      refine loop_view (k := 400) (f := 16) (listsOE_ok m' f) hin (fun i : Int => kLo m' f i) (fun _ => .nil) (fun j => 0 ≤ j ∧ j ≤ 20) (fun j => (20 - j).toNat) Q (fun i => listsO_body B m' f i) ?_ (Nat.eq_of_beq_eq_true hn) (i0 := 0) ⟨by omega, by omega⟩ hsame
      intro j hj
      refine ⟨fun _ => ⟨rfl, _, _, rfl, rfl, hq j⟩, fun hx => ?_⟩
      have hlt : j < m' := by apply Classical.byContradiction; intro h; simp [h] at hx
      have hr := hf j.toNat (by omega)
      refine ⟨⟨hj.1, hlt⟩, fun _ => ⟨rfl, _, _, rfl, rfl, hq j⟩, fun h20 => ?_⟩
      have h20' : j ≠ 20 := fun h => by subst h; simp at h20
      rw [IntWalk.i64_in (j + 1) ⟨by omega, by omega⟩]
      refine ⟨fun _ => ⟨rfl, j + 1, ⟨by omega, by omega⟩, by omega, rfl, rfl⟩, fun hc => ?_⟩
      have h256 : f (Int.toNat j) < 256 := by
        apply Classical.byContradiction; intro h
        rw [uCheck_0_pe, check_big (show 256 ≤ f (Int.toNat j) by omega) hr.2] at hc
        cases hc
      have hF := list_facts hr.1 h256
      have hcount := count_eq (f (Int.toNat j))
      generalize f (Int.toNat j) = a at hF hcount hr h256 ⊢
      generalize lst (lowN a) = l at hF hcount ⊢
      have hs := hF.short
      have hb : ((l.length : Nat) : Int) < 4611686018427387904 := by omega
      refine ⟨⟨rfl, hb⟩, fun _ _ => ⟨fun k => l.getD k 0, rfl, hb, fun k hk1 hk2 => ?_⟩, fun hbad => ?_, fun _ => ⟨⟨⟨⟨rfl, rfl⟩, rfl⟩, ⟨rfl, rfl, rfl⟩, ⟨rfl, rfl⟩, hr.1, h256⟩, fun hbad => ?_, fun _ => ⟨rfl, j + 1, ⟨by omega, by omega⟩, by omega, rfl, rfl⟩⟩⟩
      · have := hF.rise (k - 1).toNat (by omega)
        have e : (k - 1).toNat + 1 = k.toNat := by omega
        rw [e] at this
        exact this
      · exfalso
        rw [hF.of.1, hF.of.2, hcount] at hbad
        have e1 : (a != a) = false := by simp
        have e2 : (((l.length : Nat) : Int) != ((l.length : Nat) : Int)) = false := by simp
        rw [e1, e2] at hbad
        cases hbad
      · exfalso
        rw [hF.last] at hbad
        cases hbad
  · exact hq.elim
theorem lists_tree (m : Nat) (f : Nat → Int) : evFn (en [c_sets] [listsOG m f]) 400 16 (.cons (.rsl false 1 m (rowS f)) .nil) =
    Tree.need ((m = m ∧ rowS f = rowS f) ∧ (m : Int) = (m : Int) ∧ (0 : Int) = (0 : Int)) (Tree.all Int fun _ => Tree.leaf (V.bool true true)) := by kernel_rfl
theorem lists_holds (m : Nat) (f : Nat → Int) : Tree.Hold P (evFn (en [c_sets] [listsOG m f]) 400 16 (.cons (.rsl false 1 m (rowS f)) .nil)) fun r => r.soft = .bool false true := by
  constructor
  rw [lists_tree]
  exact ⟨⟨⟨rfl, rfl⟩, rfl, rfl⟩, fun _ => rfl⟩
theorem lists_meets (m : Nat) (f : Nat → Int) (hf : ∀ j, j < m → 0 ≤ f j ∧ f j < 4294967296) : Meets P 16 (.cons (.rsl false 1 m (rowS f)) .nil) (.bool false true) :=
  meets_true (en_okl (l := [c_sets]) ⟨c_sets_ok, trivial⟩ (ls := [listsOG m f]) ⟨listsOG_ok m f hf, trivial⟩) 400 (Has.of hn Tryd.func16 rfl) (lists_holds m f)
end Go.Proofs.YtpeekgekmjldlaaDoor
