/- Cpuset: the document's Within, by a set's last eight bits. -/
import Derived.Test.YtpeekgekmjldlaaDoorCcG
namespace Go.Proofs.YtpeekgekmjldlaaDoor
open Go.Fw
set_option maxRecDepth 100000
set_option linter.unusedVariables false
/-- Whether all of a list are in a set. -/
noncomputable def chW : List Int → Int → Tree V
  | [], _ => .leaf (.bool true true)
  | i :: l, b => .node (!vHas_0 b i) (.leaf (.bool true false)) (chW l b)
theorem rwithin_at_0 (a b : Int) {c : Nat} (h1 : 0 ≤ c) (h2 : c < 0 + 32) (hp : True) : evFn (enR c) 400 57 (.cons (.int false .u32 a) (.cons (.int false .u32 b) .nil)) = (.need (isLow c a) (chW (lst c) b)) :=
  trees_from 0 32 (E := enR) (gs := gsOf [c_rlistC 0, c_vHas]) (fun _ => envL_among) 400 (g := 57) (args := fun c => (.cons (.int false .u32 a) (.cons (.int false .u32 b) .nil))) (T := fun c => (.need (isLow c a) (chW (lst c) b)))
    (by kernel_rfl) h1 h2
theorem rwithin_at_1 (a b : Int) {c : Nat} (h1 : 32 ≤ c) (h2 : c < 32 + 32) (hp : True) : evFn (enR c) 400 57 (.cons (.int false .u32 a) (.cons (.int false .u32 b) .nil)) = (.need (isLow c a) (chW (lst c) b)) :=
  trees_from 32 32 (E := enR) (gs := gsOf [c_rlistC 0, c_vHas]) (fun _ => envL_among) 400 (g := 57) (args := fun c => (.cons (.int false .u32 a) (.cons (.int false .u32 b) .nil))) (T := fun c => (.need (isLow c a) (chW (lst c) b)))
    (by kernel_rfl) h1 h2
theorem rwithin_at_2 (a b : Int) {c : Nat} (h1 : 64 ≤ c) (h2 : c < 64 + 32) (hp : True) : evFn (enR c) 400 57 (.cons (.int false .u32 a) (.cons (.int false .u32 b) .nil)) = (.need (isLow c a) (chW (lst c) b)) :=
  trees_from 64 32 (E := enR) (gs := gsOf [c_rlistC 0, c_vHas]) (fun _ => envL_among) 400 (g := 57) (args := fun c => (.cons (.int false .u32 a) (.cons (.int false .u32 b) .nil))) (T := fun c => (.need (isLow c a) (chW (lst c) b)))
    (by kernel_rfl) h1 h2
theorem rwithin_at_3 (a b : Int) {c : Nat} (h1 : 96 ≤ c) (h2 : c < 96 + 32) (hp : True) : evFn (enR c) 400 57 (.cons (.int false .u32 a) (.cons (.int false .u32 b) .nil)) = (.need (isLow c a) (chW (lst c) b)) :=
  trees_from 96 32 (E := enR) (gs := gsOf [c_rlistC 0, c_vHas]) (fun _ => envL_among) 400 (g := 57) (args := fun c => (.cons (.int false .u32 a) (.cons (.int false .u32 b) .nil))) (T := fun c => (.need (isLow c a) (chW (lst c) b)))
    (by kernel_rfl) h1 h2
theorem rwithin_at_4 (a b : Int) {c : Nat} (h1 : 128 ≤ c) (h2 : c < 128 + 32) (hp : True) : evFn (enR c) 400 57 (.cons (.int false .u32 a) (.cons (.int false .u32 b) .nil)) = (.need (isLow c a) (chW (lst c) b)) :=
  trees_from 128 32 (E := enR) (gs := gsOf [c_rlistC 0, c_vHas]) (fun _ => envL_among) 400 (g := 57) (args := fun c => (.cons (.int false .u32 a) (.cons (.int false .u32 b) .nil))) (T := fun c => (.need (isLow c a) (chW (lst c) b)))
    (by kernel_rfl) h1 h2
theorem rwithin_at_5 (a b : Int) {c : Nat} (h1 : 160 ≤ c) (h2 : c < 160 + 32) (hp : True) : evFn (enR c) 400 57 (.cons (.int false .u32 a) (.cons (.int false .u32 b) .nil)) = (.need (isLow c a) (chW (lst c) b)) :=
  trees_from 160 32 (E := enR) (gs := gsOf [c_rlistC 0, c_vHas]) (fun _ => envL_among) 400 (g := 57) (args := fun c => (.cons (.int false .u32 a) (.cons (.int false .u32 b) .nil))) (T := fun c => (.need (isLow c a) (chW (lst c) b)))
    (by kernel_rfl) h1 h2
theorem rwithin_at_6 (a b : Int) {c : Nat} (h1 : 192 ≤ c) (h2 : c < 192 + 32) (hp : True) : evFn (enR c) 400 57 (.cons (.int false .u32 a) (.cons (.int false .u32 b) .nil)) = (.need (isLow c a) (chW (lst c) b)) :=
  trees_from 192 32 (E := enR) (gs := gsOf [c_rlistC 0, c_vHas]) (fun _ => envL_among) 400 (g := 57) (args := fun c => (.cons (.int false .u32 a) (.cons (.int false .u32 b) .nil))) (T := fun c => (.need (isLow c a) (chW (lst c) b)))
    (by kernel_rfl) h1 h2
theorem rwithin_at_7 (a b : Int) {c : Nat} (h1 : 224 ≤ c) (h2 : c < 224 + 32) (hp : True) : evFn (enR c) 400 57 (.cons (.int false .u32 a) (.cons (.int false .u32 b) .nil)) = (.need (isLow c a) (chW (lst c) b)) :=
  trees_from 224 32 (E := enR) (gs := gsOf [c_rlistC 0, c_vHas]) (fun _ => envL_among) 400 (g := 57) (args := fun c => (.cons (.int false .u32 a) (.cons (.int false .u32 b) .nil))) (T := fun c => (.need (isLow c a) (chW (lst c) b)))
    (by kernel_rfl) h1 h2
theorem rwithin_at (a b : Int) {c : Nat} (hc : c < 256) (hp : True) : evFn (enR c) 400 57 (.cons (.int false .u32 a) (.cons (.int false .u32 b) .nil)) = (.need (isLow c a) (chW (lst c) b)) := by
  rcases Nat.lt_or_ge c 32 with h | h0
  · exact rwithin_at_0 a b (by omega) (by omega) hp
  rcases Nat.lt_or_ge c 64 with h | h1
  · exact rwithin_at_1 a b (by omega) (by omega) hp
  rcases Nat.lt_or_ge c 96 with h | h2
  · exact rwithin_at_2 a b (by omega) (by omega) hp
  rcases Nat.lt_or_ge c 128 with h | h3
  · exact rwithin_at_3 a b (by omega) (by omega) hp
  rcases Nat.lt_or_ge c 160 with h | h4
  · exact rwithin_at_4 a b (by omega) (by omega) hp
  rcases Nat.lt_or_ge c 192 with h | h5
  · exact rwithin_at_5 a b (by omega) (by omega) hp
  rcases Nat.lt_or_ge c 224 with h | h6
  · exact rwithin_at_6 a b (by omega) (by omega) hp
  exact rwithin_at_7 a b (by omega) (by omega) hp
end Go.Proofs.YtpeekgekmjldlaaDoor
