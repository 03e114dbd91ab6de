/- From a row's listed tables to what the evaluator knows of them. -/
import Derived.Test.YtkkojdcchnailaaGreatDoorQGase
import Derived.Test.YtkkojdcchnailaaGreatDoorRows
import Derived.Lib.LaidTab
import Derived.LaidSub
import Derived.FnData
import Derived.LaidLaws
namespace Go.Proofs.YtkkojdcchnailaaGreatDoor
open Go.Fw
set_option maxRecDepth 100000

theorem tabRow_RL {F : Nat → Prop} {w : World} {n : Nat} {m : Nat → Option Nat} (k : IntKind) : ∀ zs : List Int, RL F w (tabRow k zs) n m (zs.map (Value.int k)) := by
  intro zs
  induction zs with
  | nil => simp only [tabRow, List.map_nil, RL]
  | cons z zs ih => simp only [tabRow, List.map_cons, RL, R]; exact ⟨_, _, rfl, rfl, ih⟩
theorem tab_R {W : World} {g n : Nat} {k : IntKind} {zs : List Int} {name : String} (hg : P.globalNamed name = some g) (hn : zs.length = n) (h : Lib.TabIs P W name k zs) :
    R (fun B => B < W.heap.size) W (.rptr true n 1 (fun _ => tabRow k zs) 0 0) 0 (fun _ => none) (.pointer (some ⟨g, 0, none⟩)) ∧ exactAt (fun B => B < W.heap.size) W g (.rptr true n 1 (fun _ => tabRow k zs) 0 0) := by
  unfold Lib.TabIs World.var? at h
  rw [hg] at h
  simp only [Option.bind_some] at h
  split at h
  · rename_i cs el fr hc
    injection h with h
    refine ⟨?_, heap_lt hc, cs, el, fr, hc, by rw [h]; simpa using hn⟩
    rw [R_rptr]
    refine ⟨by decide, g, 0, by simp, heap_lt hc, cs, el, fr, hc, fun j hj => ⟨zs.map (Value.int k), tabRow_RL k zs, by simpa using hn, fun q _ => ?_⟩⟩
    have : j = 0 := by omega
    subst this
    rw [h]
    simp
  · cases h

theorem strRow_RL {F : Nat → Prop} {w : World} {n : Nat} {m : Nat → Option Nat} : ∀ ss : List (List UInt8), RL F w (strRow ss) n m (ss.map fun s => Value.string ⟨s.toArray⟩) := by
  intro ss
  induction ss with
  | nil => simp only [strRow, List.map_nil, RL]
  | cons s ss ih => simp only [strRow, List.map_cons, RL, R]; exact ⟨_, _, rfl, rfl, ih⟩
/-- The texts as a row lists them: an array. -/
def strData {H : Type} (ss : List (List UInt8)) : DataW H := .agg (ss.map fun s => .lit (.string s))
theorem cells_of_strs {H : Type} {enc : TypeId × Value → H} {P : Program} {w : World} {base : Nat} {sp : Nat → Bool} {held : Bool} {fuel : Nat} {t e : TypeId} {n : Nat} {cs : List Value} {ss : List (List UInt8)} {p : List MemPlace}
    (ht : P.underlying t = some (.array n e)) (he : P.underlying e = some .string) (hce : P.cellsOf e = 1) (hct : P.cellsOf t = n)
    (h : DataW.trod enc P w base sp held fuel t cs = some (strData ss, p)) : cs = ss.map fun s => Value.string ⟨s.toArray⟩ := by
  cases fuel with
  | zero => simp [DataW.trod] at h
  | succ fuel =>
    simp only [DataW.trod, ht, hce, hct, Nat.mul_one] at h
    split at h
    · rename_i hl
      obtain ⟨xs, hm, hx⟩ := Option.map_eq_some_iff.1 h
      have hxs : xs.map (·.1) = ss.map fun s => (DataW.lit (.string s) : DataW H) := by
        have := congrArg Prod.fst hx
        simpa [strData] using this
      have hxl : xs.length = n := by simpa using Lib.mapM_length hm
      have hzl : ss.length = n := by
        have := congrArg List.length hxs
        simp at this
        omega
      apply List.ext_getElem?
      intro i
      by_cases hi : i < n
      · obtain ⟨b, hb, hf⟩ := Lib.mapM_at hm i i (by simp [hi])
        obtain ⟨s, hc, rfl, _⟩ := DataW.trod_string he hf
        have h1 : cs[i]? = some (.string s) := by
          have := congrArg (·[0]?) hc
          simpa [List.getElem?_take, List.getElem?_drop] using this
        have h2 : (xs.map (·.1))[i]? = some (DataW.lit (.string s.data.toList) : DataW H) := by simp [hb]
        rw [hxs] at h2
        simp only [List.getElem?_map, Option.map_eq_some_iff, DataW.lit.injEq, Lit.string.injEq] at h2
        obtain ⟨z', hz', e⟩ := h2
        rw [h1]
        simp [hz', e]
      · rw [List.getElem?_eq_none (by omega), List.getElem?_eq_none (by simp; omega)]
    · cases h
theorem strs_R {W : World} {g n t e : Nat} {ss : List (List UInt8)} {name : String} (hg : P.globalNamed name = some g) (hty : (P.globals[g]?).map (·.type) = some t) (ht : P.underlying t = some (.array n e)) (he : P.underlying e = some .string) (hce : P.cellsOf e = 1) (hct : P.cellsOf t = n) (hn : ss.length = n)
    (h : laidMet P [(name, strData ss)] W) :
    R (fun B => B < W.heap.size) W (.rptr true n 1 (fun _ => strRow ss) 0 0) 0 (fun _ => none) (.pointer (some ⟨g, 0, none⟩)) ∧ exactAt (fun B => B < W.heap.size) W g (.rptr true n 1 (fun _ => strRow ss) 0 0) := by
  obtain ⟨ps, ⟨g', t', cs, fuel, p, q, hg', ht', hvar, hd, _, _⟩, _⟩ := h
  obtain rfl := Option.some.inj (hg.symm.trans hg')
  obtain rfl := Option.some.inj (hty.symm.trans ht')
  have hcs := cells_of_strs ht he hce hct hd
  unfold World.var? at hvar
  rw [hg] at hvar
  simp only [Option.bind_some] at hvar
  split at hvar
  · rename_i cs' el fr hc
    injection hvar with hvar
    subst hvar
    have hlen : cs'.size = n := by rw [← Array.length_toList, hcs, List.length_map]; exact hn
    refine ⟨?_, heap_lt hc, cs', el, fr, hc, by rw [hlen, Nat.one_mul]⟩
    rw [R_rptr]
    refine ⟨by decide, g, 0, by simp, heap_lt hc, cs', el, fr, hc, fun j hj => ⟨ss.map fun s => Value.string ⟨s.toArray⟩, strRow_RL ss, by simpa using hn, fun q _ => ?_⟩⟩
    have : j = 0 := by omega
    subst this
    rw [← hcs]
    simp
  · cases hvar
theorem gok_of {laid : List (String × DataW Unit)} {W : World} (hL : laidMetH P laid W)
    (h0 : (laid.filter fun x => x.1 == "math/bits.deBruijn32tab") = [("math/bits.deBruijn32tab", Lib.tabData .u8 tab2)])
    (h1 : (laid.filter fun x => x.1 == "mainsheet/call.names") = [("mainsheet/call.names", strData tab1)]) : GOk (fun B => B < W.heap.size) W := by
  have a0 := laidMetH.filter (fun x => x.1 == "math/bits.deBruijn32tab") hL
  have a1 := laidMetH.filter (fun x => x.1 == "mainsheet/call.names") hL
  rw [h0] at a0
  have a0 : laidMet P [("math/bits.deBruijn32tab", Lib.tabData .u8 tab2)] W := a0
  rw [h1] at a1
  have a1 : laidMet P [("mainsheet/call.names", strData tab1)] W := a1
  intro g v hg
  unfold glob at hg
  split at hg
  · injection hg with hg; subst hg
    exact ⟨rfl, strs_R (name := "mainsheet/call.names") (g := 1) (t := 79) (e := 9) (n := 20) (by kernel_rfl) (by kernel_rfl) (by kernel_rfl) (by kernel_rfl) (by kernel_rfl) (by kernel_rfl) (by kernel_rfl) a1⟩
  · injection hg with hg; subst hg
    exact ⟨rfl, tab_R (name := "math/bits.deBruijn32tab") (by kernel_rfl) (by kernel_rfl) (Lib.tabIs_of_head (g := 2) (t := 473) (e := 5) (n := 32) (by kernel_rfl) (by kernel_rfl) (by kernel_rfl) (by kernel_rfl) (by kernel_rfl) (by kernel_rfl) a0)⟩
  · cases hg
end Go.Proofs.YtkkojdcchnailaaGreatDoor
