/- From a row's listed tables to what the evaluator knows of them. -/
import Derived.Test.YtdgjneondmmgdaaGreatDoorGb
import Derived.Test.YtdgjneondmmgdaaGreatDoorRows
import Derived.Lib.LaidTab
import Derived.LaidSub
import Derived.FnData
import Derived.LaidLaws
set_option linter.unusedSimpArgs false
set_option linter.unusedVariables false
namespace Go.Proofs.YtdgjneondmmgdaaGreatDoor
open Go.Fw
set_option maxRecDepth 100000

theorem tabRow_RL {F : Nat → Prop} {w : World} {n : Nat} {m : Nat → Option Nat} (k : IntKind) : ∀ zs : List Int, RL F w (tabRow k zs) n m (zs.map (Value.int k)) := by
  intro zs
  induction zs with
  | nil => simp only [tabRow, List.map_nil, RL]
  | cons z zs ih => simp only [tabRow, List.map_cons, RL, R]; exact ⟨_, _, rfl, rfl, ih⟩
theorem tab_R {W : World} {g n : Nat} {k : IntKind} {zs : List Int} {name : String} (hg : P.globalNamed name = some g) (hn : zs.length = n) (h : Lib.TabIs P W name k zs) :
    R (fun B => B < W.heap.size) W (.rptr true n 1 (fun _ => tabRow k zs) 0 0) 0 (fun _ => none) (.pointer (some ⟨g, 0, none⟩)) ∧ exactAt (fun B => B < W.heap.size) W g (.rptr true n 1 (fun _ => tabRow k zs) 0 0) := by
  unfold Lib.TabIs World.var? at h
  rw [hg] at h
  simp only [Option.bind_some] at h
  split at h
  · rename_i cs el fr hc
    injection h with h
    refine ⟨?_, heap_lt hc, cs, el, fr, hc, by rw [h]; simpa using hn⟩
    rw [R_rptr]
    refine ⟨by decide, g, 0, by simp, heap_lt hc, cs, el, fr, hc, fun j hj => ⟨zs.map (Value.int k), tabRow_RL k zs, by simpa using hn, fun q _ => ?_⟩⟩
    have : j = 0 := by omega
    subst this
    rw [h]
    simp
  · cases h

theorem gok_of {laid : List (String × DataW Unit)} {W : World} (hL : laidMetH P laid W)
    (h0 : (laid.filter fun x => x.1 == "math/bits.deBruijn32tab") = [("math/bits.deBruijn32tab", Lib.tabData .u8 tab0)]) : GOk (fun B => B < W.heap.size) W := by
  have a0 := laidMetH.filter (fun x => x.1 == "math/bits.deBruijn32tab") hL
  rw [h0] at a0
  have a0 : laidMet P [("math/bits.deBruijn32tab", Lib.tabData .u8 tab0)] W := a0
  intro g v hg
  unfold glob at hg
  split at hg
  · injection hg with hg; subst hg
    exact ⟨rfl, tab_R (name := "math/bits.deBruijn32tab") (by kernel_rfl) (by kernel_rfl) (Lib.tabIs_of_head (g := 0) (t := 634) (e := 5) (n := 32) (by kernel_rfl) (by kernel_rfl) (by kernel_rfl) (by kernel_rfl) (by kernel_rfl) (by kernel_rfl) a0)⟩
  · cases hg
end Go.Proofs.YtdgjneondmmgdaaGreatDoor
