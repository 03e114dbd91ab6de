/- Cpuset: Next, by a set's last eight bits. -/
import Derived.Test.YtpeekgekmjldlaaDoorCcG
namespace Go.Proofs.YtpeekgekmjldlaaDoor
open Go.Fw
set_option maxRecDepth 100000
set_option linter.unusedVariables false

theorem next_at_0 (a n : Int) {c : Nat} (h1 : 0 ≤ c) (h2 : c < 0 + 16) (hp : True) : evFn (enL c) 400 58 (.cons (.int false .u32 a) (.cons (.int false .i64 n) .nil)) = (.need (maskI a = Int.ofNat c) (chN (lst c) n)) :=
  trees_from 0 16 (E := enL) (gs := gsOf [c_tz]) (fun _ => envL_among) 400 (g := 58) (args := fun c => (.cons (.int false .u32 a) (.cons (.int false .i64 n) .nil))) (T := fun c => (.need (maskI a = Int.ofNat c) (chN (lst c) n)))
    (by kernel_rfl) h1 h2
theorem next_at_1 (a n : Int) {c : Nat} (h1 : 16 ≤ c) (h2 : c < 16 + 16) (hp : True) : evFn (enL c) 400 58 (.cons (.int false .u32 a) (.cons (.int false .i64 n) .nil)) = (.need (maskI a = Int.ofNat c) (chN (lst c) n)) :=
  trees_from 16 16 (E := enL) (gs := gsOf [c_tz]) (fun _ => envL_among) 400 (g := 58) (args := fun c => (.cons (.int false .u32 a) (.cons (.int false .i64 n) .nil))) (T := fun c => (.need (maskI a = Int.ofNat c) (chN (lst c) n)))
    (by kernel_rfl) h1 h2
theorem next_at_2 (a n : Int) {c : Nat} (h1 : 32 ≤ c) (h2 : c < 32 + 16) (hp : True) : evFn (enL c) 400 58 (.cons (.int false .u32 a) (.cons (.int false .i64 n) .nil)) = (.need (maskI a = Int.ofNat c) (chN (lst c) n)) :=
  trees_from 32 16 (E := enL) (gs := gsOf [c_tz]) (fun _ => envL_among) 400 (g := 58) (args := fun c => (.cons (.int false .u32 a) (.cons (.int false .i64 n) .nil))) (T := fun c => (.need (maskI a = Int.ofNat c) (chN (lst c) n)))
    (by kernel_rfl) h1 h2
theorem next_at_3 (a n : Int) {c : Nat} (h1 : 48 ≤ c) (h2 : c < 48 + 16) (hp : True) : evFn (enL c) 400 58 (.cons (.int false .u32 a) (.cons (.int false .i64 n) .nil)) = (.need (maskI a = Int.ofNat c) (chN (lst c) n)) :=
  trees_from 48 16 (E := enL) (gs := gsOf [c_tz]) (fun _ => envL_among) 400 (g := 58) (args := fun c => (.cons (.int false .u32 a) (.cons (.int false .i64 n) .nil))) (T := fun c => (.need (maskI a = Int.ofNat c) (chN (lst c) n)))
    (by kernel_rfl) h1 h2
theorem next_at_4 (a n : Int) {c : Nat} (h1 : 64 ≤ c) (h2 : c < 64 + 16) (hp : True) : evFn (enL c) 400 58 (.cons (.int false .u32 a) (.cons (.int false .i64 n) .nil)) = (.need (maskI a = Int.ofNat c) (chN (lst c) n)) :=
  trees_from 64 16 (E := enL) (gs := gsOf [c_tz]) (fun _ => envL_among) 400 (g := 58) (args := fun c => (.cons (.int false .u32 a) (.cons (.int false .i64 n) .nil))) (T := fun c => (.need (maskI a = Int.ofNat c) (chN (lst c) n)))
    (by kernel_rfl) h1 h2
theorem next_at_5 (a n : Int) {c : Nat} (h1 : 80 ≤ c) (h2 : c < 80 + 16) (hp : True) : evFn (enL c) 400 58 (.cons (.int false .u32 a) (.cons (.int false .i64 n) .nil)) = (.need (maskI a = Int.ofNat c) (chN (lst c) n)) :=
  trees_from 80 16 (E := enL) (gs := gsOf [c_tz]) (fun _ => envL_among) 400 (g := 58) (args := fun c => (.cons (.int false .u32 a) (.cons (.int false .i64 n) .nil))) (T := fun c => (.need (maskI a = Int.ofNat c) (chN (lst c) n)))
    (by kernel_rfl) h1 h2
theorem next_at_6 (a n : Int) {c : Nat} (h1 : 96 ≤ c) (h2 : c < 96 + 16) (hp : True) : evFn (enL c) 400 58 (.cons (.int false .u32 a) (.cons (.int false .i64 n) .nil)) = (.need (maskI a = Int.ofNat c) (chN (lst c) n)) :=
  trees_from 96 16 (E := enL) (gs := gsOf [c_tz]) (fun _ => envL_among) 400 (g := 58) (args := fun c => (.cons (.int false .u32 a) (.cons (.int false .i64 n) .nil))) (T := fun c => (.need (maskI a = Int.ofNat c) (chN (lst c) n)))
    (by kernel_rfl) h1 h2
theorem next_at_7 (a n : Int) {c : Nat} (h1 : 112 ≤ c) (h2 : c < 112 + 16) (hp : True) : evFn (enL c) 400 58 (.cons (.int false .u32 a) (.cons (.int false .i64 n) .nil)) = (.need (maskI a = Int.ofNat c) (chN (lst c) n)) :=
  trees_from 112 16 (E := enL) (gs := gsOf [c_tz]) (fun _ => envL_among) 400 (g := 58) (args := fun c => (.cons (.int false .u32 a) (.cons (.int false .i64 n) .nil))) (T := fun c => (.need (maskI a = Int.ofNat c) (chN (lst c) n)))
    (by kernel_rfl) h1 h2
theorem next_at_8 (a n : Int) {c : Nat} (h1 : 128 ≤ c) (h2 : c < 128 + 16) (hp : True) : evFn (enL c) 400 58 (.cons (.int false .u32 a) (.cons (.int false .i64 n) .nil)) = (.need (maskI a = Int.ofNat c) (chN (lst c) n)) :=
  trees_from 128 16 (E := enL) (gs := gsOf [c_tz]) (fun _ => envL_among) 400 (g := 58) (args := fun c => (.cons (.int false .u32 a) (.cons (.int false .i64 n) .nil))) (T := fun c => (.need (maskI a = Int.ofNat c) (chN (lst c) n)))
    (by kernel_rfl) h1 h2
theorem next_at_9 (a n : Int) {c : Nat} (h1 : 144 ≤ c) (h2 : c < 144 + 16) (hp : True) : evFn (enL c) 400 58 (.cons (.int false .u32 a) (.cons (.int false .i64 n) .nil)) = (.need (maskI a = Int.ofNat c) (chN (lst c) n)) :=
  trees_from 144 16 (E := enL) (gs := gsOf [c_tz]) (fun _ => envL_among) 400 (g := 58) (args := fun c => (.cons (.int false .u32 a) (.cons (.int false .i64 n) .nil))) (T := fun c => (.need (maskI a = Int.ofNat c) (chN (lst c) n)))
    (by kernel_rfl) h1 h2
theorem next_at_10 (a n : Int) {c : Nat} (h1 : 160 ≤ c) (h2 : c < 160 + 16) (hp : True) : evFn (enL c) 400 58 (.cons (.int false .u32 a) (.cons (.int false .i64 n) .nil)) = (.need (maskI a = Int.ofNat c) (chN (lst c) n)) :=
  trees_from 160 16 (E := enL) (gs := gsOf [c_tz]) (fun _ => envL_among) 400 (g := 58) (args := fun c => (.cons (.int false .u32 a) (.cons (.int false .i64 n) .nil))) (T := fun c => (.need (maskI a = Int.ofNat c) (chN (lst c) n)))
    (by kernel_rfl) h1 h2
theorem next_at_11 (a n : Int) {c : Nat} (h1 : 176 ≤ c) (h2 : c < 176 + 16) (hp : True) : evFn (enL c) 400 58 (.cons (.int false .u32 a) (.cons (.int false .i64 n) .nil)) = (.need (maskI a = Int.ofNat c) (chN (lst c) n)) :=
  trees_from 176 16 (E := enL) (gs := gsOf [c_tz]) (fun _ => envL_among) 400 (g := 58) (args := fun c => (.cons (.int false .u32 a) (.cons (.int false .i64 n) .nil))) (T := fun c => (.need (maskI a = Int.ofNat c) (chN (lst c) n)))
    (by kernel_rfl) h1 h2
theorem next_at_12 (a n : Int) {c : Nat} (h1 : 192 ≤ c) (h2 : c < 192 + 16) (hp : True) : evFn (enL c) 400 58 (.cons (.int false .u32 a) (.cons (.int false .i64 n) .nil)) = (.need (maskI a = Int.ofNat c) (chN (lst c) n)) :=
  trees_from 192 16 (E := enL) (gs := gsOf [c_tz]) (fun _ => envL_among) 400 (g := 58) (args := fun c => (.cons (.int false .u32 a) (.cons (.int false .i64 n) .nil))) (T := fun c => (.need (maskI a = Int.ofNat c) (chN (lst c) n)))
    (by kernel_rfl) h1 h2
theorem next_at_13 (a n : Int) {c : Nat} (h1 : 208 ≤ c) (h2 : c < 208 + 16) (hp : True) : evFn (enL c) 400 58 (.cons (.int false .u32 a) (.cons (.int false .i64 n) .nil)) = (.need (maskI a = Int.ofNat c) (chN (lst c) n)) :=
  trees_from 208 16 (E := enL) (gs := gsOf [c_tz]) (fun _ => envL_among) 400 (g := 58) (args := fun c => (.cons (.int false .u32 a) (.cons (.int false .i64 n) .nil))) (T := fun c => (.need (maskI a = Int.ofNat c) (chN (lst c) n)))
    (by kernel_rfl) h1 h2
theorem next_at_14 (a n : Int) {c : Nat} (h1 : 224 ≤ c) (h2 : c < 224 + 16) (hp : True) : evFn (enL c) 400 58 (.cons (.int false .u32 a) (.cons (.int false .i64 n) .nil)) = (.need (maskI a = Int.ofNat c) (chN (lst c) n)) :=
  trees_from 224 16 (E := enL) (gs := gsOf [c_tz]) (fun _ => envL_among) 400 (g := 58) (args := fun c => (.cons (.int false .u32 a) (.cons (.int false .i64 n) .nil))) (T := fun c => (.need (maskI a = Int.ofNat c) (chN (lst c) n)))
    (by kernel_rfl) h1 h2
theorem next_at_15 (a n : Int) {c : Nat} (h1 : 240 ≤ c) (h2 : c < 240 + 16) (hp : True) : evFn (enL c) 400 58 (.cons (.int false .u32 a) (.cons (.int false .i64 n) .nil)) = (.need (maskI a = Int.ofNat c) (chN (lst c) n)) :=
  trees_from 240 16 (E := enL) (gs := gsOf [c_tz]) (fun _ => envL_among) 400 (g := 58) (args := fun c => (.cons (.int false .u32 a) (.cons (.int false .i64 n) .nil))) (T := fun c => (.need (maskI a = Int.ofNat c) (chN (lst c) n)))
    (by kernel_rfl) h1 h2
theorem next_at (a n : Int) {c : Nat} (hc : c < 256) (hp : True) : evFn (enL c) 400 58 (.cons (.int false .u32 a) (.cons (.int false .i64 n) .nil)) = (.need (maskI a = Int.ofNat c) (chN (lst c) n)) := by
  rcases Nat.lt_or_ge c 16 with h | h0
  · exact next_at_0 a n (by omega) (by omega) hp
  rcases Nat.lt_or_ge c 32 with h | h1
  · exact next_at_1 a n (by omega) (by omega) hp
  rcases Nat.lt_or_ge c 48 with h | h2
  · exact next_at_2 a n (by omega) (by omega) hp
  rcases Nat.lt_or_ge c 64 with h | h3
  · exact next_at_3 a n (by omega) (by omega) hp
  rcases Nat.lt_or_ge c 80 with h | h4
  · exact next_at_4 a n (by omega) (by omega) hp
  rcases Nat.lt_or_ge c 96 with h | h5
  · exact next_at_5 a n (by omega) (by omega) hp
  rcases Nat.lt_or_ge c 112 with h | h6
  · exact next_at_6 a n (by omega) (by omega) hp
  rcases Nat.lt_or_ge c 128 with h | h7
  · exact next_at_7 a n (by omega) (by omega) hp
  rcases Nat.lt_or_ge c 144 with h | h8
  · exact next_at_8 a n (by omega) (by omega) hp
  rcases Nat.lt_or_ge c 160 with h | h9
  · exact next_at_9 a n (by omega) (by omega) hp
  rcases Nat.lt_or_ge c 176 with h | h10
  · exact next_at_10 a n (by omega) (by omega) hp
  rcases Nat.lt_or_ge c 192 with h | h11
  · exact next_at_11 a n (by omega) (by omega) hp
  rcases Nat.lt_or_ge c 208 with h | h12
  · exact next_at_12 a n (by omega) (by omega) hp
  rcases Nat.lt_or_ge c 224 with h | h13
  · exact next_at_13 a n (by omega) (by omega) hp
  rcases Nat.lt_or_ge c 240 with h | h14
  · exact next_at_14 a n (by omega) (by omega) hp
  exact next_at_15 a n (by omega) (by omega) hp
end Go.Proofs.YtpeekgekmjldlaaDoor
