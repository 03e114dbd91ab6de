/- From a row's listed tables to what the evaluator knows of them. -/
import Derived.Test.YtpeekgekmjldlaaDoorGase
import Derived.Test.YtpeekgekmjldlaaDoorRows
import Derived.Lib.LaidTab
import Derived.LaidSub
import Derived.FnData
import Derived.LaidLaws
namespace Go.Proofs.YtpeekgekmjldlaaDoor
open Go.Fw
set_option maxRecDepth 100000

theorem tabRow_RL {F : Nat → Prop} {w : World} {n : Nat} {m : Nat → Option Nat} (k : IntKind) : ∀ zs : List Int, RL F w (tabRow k zs) n m (zs.map (Value.int k)) := by
  intro zs
  induction zs with
  | nil => simp only [tabRow, List.map_nil, RL]
  | cons z zs ih => simp only [tabRow, List.map_cons, RL, R]; exact ⟨_, _, rfl, rfl, ih⟩
theorem tab_R {W : World} {g n : Nat} {k : IntKind} {zs : List Int} {name : String} (hg : P.globalNamed name = some g) (hn : zs.length = n) (h : Lib.TabIs P W name k zs) :
    R (fun B => B < W.heap.size) W (.rptr true n 1 (fun _ => tabRow k zs) 0 0) 0 (fun _ => none) (.pointer (some ⟨g, 0, none⟩)) ∧ exactAt (fun B => B < W.heap.size) W g (.rptr true n 1 (fun _ => tabRow k zs) 0 0) := by
  unfold Lib.TabIs World.var? at h
  rw [hg] at h
  simp only [Option.bind_some] at h
  split at h
  · rename_i cs el fr hc
    injection h with h
    refine ⟨?_, heap_lt hc, cs, el, fr, hc, by rw [h]; simpa using hn⟩
    rw [R_rptr]
    refine ⟨by decide, g, 0, by simp, heap_lt hc, cs, el, fr, hc, fun j hj => ⟨zs.map (Value.int k), tabRow_RL k zs, by simpa using hn, fun q _ => ?_⟩⟩
    have : j = 0 := by omega
    subst this
    rw [h]
    simp
  · cases h

theorem err_R {W : World} {name : String} {g t : Nat} {ms : Array (String × TypeId)} {nm : String} {d : DataW Unit} (hg : P.globalNamed name = some g) (hty : (P.globals[g]?).map (·.type) = some t) (ht : P.underlying t = some (.interface ms))
    (h : laidMet P [(name, .iface nm d)] W) : R (fun B => B < W.heap.size) W (.rptr true 1 1 (fun _ => .cons (.ifc true false) .nil) 0 0) 0 (fun _ => none) (.pointer (some ⟨g, 0, none⟩)) ∧ exactAt (fun B => B < W.heap.size) W g (.rptr true 1 1 (fun _ => .cons (.ifc true false) .nil) 0 0) := by
  obtain ⟨ps, ⟨g', t', cs, fuel, p, q, hg', ht', hvar, hd, _, _⟩, _⟩ := h
  obtain rfl := Option.some.inj (hg.symm.trans hg')
  obtain rfl := Option.some.inj (hty.symm.trans ht')
  obtain ⟨f', u, v, hcs, _, _⟩ := iface_of_trod ht hd
  unfold World.var? at hvar
  rw [hg] at hvar
  simp only [Option.bind_some] at hvar
  split at hvar
  · rename_i cs' el fr hc
    injection hvar with hvar
    subst hvar
    refine ⟨?_, heap_lt hc, cs', el, fr, hc, by rw [← Array.length_toList, hcs]; rfl⟩
    rw [R_rptr]
    refine ⟨by decide, g, 0, by simp, heap_lt hc, cs', el, fr, hc, fun j hj => ⟨[.iface u v], ?_, rfl, fun q hq => ?_⟩⟩
    · simp only [RL, R]; exact ⟨_, _, rfl, .inr ⟨trivial, _, _, rfl⟩, rfl⟩
    · have : j = 0 := by omega
      have : q = 0 := by omega
      subst_vars
      rw [← Array.getElem?_toList, hcs]
  · cases hvar
theorem gok_of {laid : List (String × DataW Unit)} {W : World} (hL : laidMetH P laid W)
    (h0 : (laid.filter fun x => x.1 == "math/bits.deBruijn32tab") = [("math/bits.deBruijn32tab", Lib.tabData .u8 tab0)])
    (h1 : (laid.filter fun x => x.1 == "internal/strconv.uint64pow10") = [("internal/strconv.uint64pow10", Lib.tabData .u64 tab1)])
    (h7 : (laid.filter fun x => x.1 == "math/bits.deBruijn64tab") = [("math/bits.deBruijn64tab", Lib.tabData .u8 tab7)])
    (h3 : (laid.filter fun x => x.1 == "strconv.ErrSyntax") = [("strconv.ErrSyntax", Rows.laid_strconv_ErrSyntax)]) (h4 : (laid.filter fun x => x.1 == "strconv.ErrRange") = [("strconv.ErrRange", Rows.laid_strconv_ErrRange)]) : GOk (fun B => B < W.heap.size) W := by
  have a0 := laidMetH.filter (fun x => x.1 == "math/bits.deBruijn32tab") hL
  have a1 := laidMetH.filter (fun x => x.1 == "internal/strconv.uint64pow10") hL
  have a7 := laidMetH.filter (fun x => x.1 == "math/bits.deBruijn64tab") hL
  rw [h0] at a0
  have a0 : laidMet P [("math/bits.deBruijn32tab", Lib.tabData .u8 tab0)] W := a0
  rw [h1] at a1
  have a1 : laidMet P [("internal/strconv.uint64pow10", Lib.tabData .u64 tab1)] W := a1
  rw [h7] at a7
  have a7 : laidMet P [("math/bits.deBruijn64tab", Lib.tabData .u8 tab7)] W := a7
  have a3 := laidMetH.filter (fun x => x.1 == "strconv.ErrSyntax") hL
  have a4 := laidMetH.filter (fun x => x.1 == "strconv.ErrRange") hL
  rw [h3] at a3
  have a3 : laidMet P [("strconv.ErrSyntax", Rows.laid_strconv_ErrSyntax)] W := a3
  rw [h4] at a4
  have a4 : laidMet P [("strconv.ErrRange", Rows.laid_strconv_ErrRange)] W := a4
  intro g v hg
  unfold glob at hg
  split at hg
  · injection hg with hg; subst hg
    exact ⟨rfl, tab_R (name := "math/bits.deBruijn32tab") (by kernel_rfl) (by kernel_rfl) (Lib.tabIs_of_head (g := 0) (t := 112) (e := 5) (n := 32) (by kernel_rfl) (by kernel_rfl) (by kernel_rfl) (by kernel_rfl) (by kernel_rfl) (by kernel_rfl) a0)⟩
  · injection hg with hg; subst hg
    exact ⟨rfl, tab_R (name := "internal/strconv.uint64pow10") (by kernel_rfl) (by kernel_rfl) (Lib.tabIs_of_head (g := 1) (t := 155) (e := 137) (n := 20) (by kernel_rfl) (by kernel_rfl) (by kernel_rfl) (by kernel_rfl) (by kernel_rfl) (by kernel_rfl) a1)⟩
  · injection hg with hg; subst hg
    exact ⟨rfl, err_R (name := "strconv.ErrSyntax") (g := 3) (t := 94) (by kernel_rfl) (by kernel_rfl) Tryd.underlying94 a3⟩
  · injection hg with hg; subst hg
    exact ⟨rfl, err_R (name := "strconv.ErrRange") (g := 4) (t := 94) (by kernel_rfl) (by kernel_rfl) Tryd.underlying94 a4⟩
  · injection hg with hg; subst hg
    exact ⟨rfl, tab_R (name := "math/bits.deBruijn64tab") (by kernel_rfl) (by kernel_rfl) (Lib.tabIs_of_head (g := 7) (t := 175) (e := 5) (n := 64) (by kernel_rfl) (by kernel_rfl) (by kernel_rfl) (by kernel_rfl) (by kernel_rfl) (by kernel_rfl) a7)⟩
  · cases hg
end Go.Proofs.YtpeekgekmjldlaaDoor
