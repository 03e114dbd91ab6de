/- Cpuset: List, by a set's last eight bits. -/
import Derived.Test.YtpeekgekmjldlaaDoorCcC
namespace Go.Proofs.YtpeekgekmjldlaaDoor
open Go.Fw
set_option maxRecDepth 100000
set_option linter.unusedVariables false
noncomputable def pinIn (c : Nat) : Lp := ⟨96, 1, pinGS (enM [c_tz]) (gsOf [c_tz]) 400 96 (loopAt P 96 1) 1 .u32 (Int.ofNat c)⟩
theorem enT_ok : (enM [c_tz]).Ok := enM_ok (l := [c_tz]) ⟨c_tz_ok, trivial⟩
theorem pinIn_ok (c : Nat) : (pinIn c).Ok P := pin_lpS (E := enM [c_tz]) (envL_among (l := [c_tz])) enT_ok 400 1 .u32 _ (by kernel_rfl) rfl
noncomputable abbrev enL (c : Nat) : Env := enM [c_tz] [pinIn c]
theorem enL_ok (c : Nat) : (enL c).Ok := enM_okl (l := [c_tz]) ⟨c_tz_ok, trivial⟩ (ls := [pinIn c]) ⟨pinIn_ok c, trivial⟩
theorem list_at_0 (a : Int) {c : Nat} (h1 : 0 ≤ c) (h2 : c < 0 + 16) (hp : maskI a = Int.ofNat c) : Meets P 53 (.cons (.int false .u32 a) .nil) (rowL (lst c)) :=
  meets_from (P := P) 0 16 (E := enL) (gs := gsOf [c_tz]) (fun _ => envL_among) (fun _ => rfl) 400 (g := 53) (args := fun c => (.cons (.int false .u32 a) .nil)) (res := fun c => (rowL (lst c))) (Has.of hn Tryd.func53 rfl) (fun c => maskI a = Int.ofNat c)
    (by kernel_rfl) h1 h2 (enL_ok c) hp
theorem list_at_1 (a : Int) {c : Nat} (h1 : 16 ≤ c) (h2 : c < 16 + 16) (hp : maskI a = Int.ofNat c) : Meets P 53 (.cons (.int false .u32 a) .nil) (rowL (lst c)) :=
  meets_from (P := P) 16 16 (E := enL) (gs := gsOf [c_tz]) (fun _ => envL_among) (fun _ => rfl) 400 (g := 53) (args := fun c => (.cons (.int false .u32 a) .nil)) (res := fun c => (rowL (lst c))) (Has.of hn Tryd.func53 rfl) (fun c => maskI a = Int.ofNat c)
    (by kernel_rfl) h1 h2 (enL_ok c) hp
theorem list_at_2 (a : Int) {c : Nat} (h1 : 32 ≤ c) (h2 : c < 32 + 16) (hp : maskI a = Int.ofNat c) : Meets P 53 (.cons (.int false .u32 a) .nil) (rowL (lst c)) :=
  meets_from (P := P) 32 16 (E := enL) (gs := gsOf [c_tz]) (fun _ => envL_among) (fun _ => rfl) 400 (g := 53) (args := fun c => (.cons (.int false .u32 a) .nil)) (res := fun c => (rowL (lst c))) (Has.of hn Tryd.func53 rfl) (fun c => maskI a = Int.ofNat c)
    (by kernel_rfl) h1 h2 (enL_ok c) hp
theorem list_at_3 (a : Int) {c : Nat} (h1 : 48 ≤ c) (h2 : c < 48 + 16) (hp : maskI a = Int.ofNat c) : Meets P 53 (.cons (.int false .u32 a) .nil) (rowL (lst c)) :=
  meets_from (P := P) 48 16 (E := enL) (gs := gsOf [c_tz]) (fun _ => envL_among) (fun _ => rfl) 400 (g := 53) (args := fun c => (.cons (.int false .u32 a) .nil)) (res := fun c => (rowL (lst c))) (Has.of hn Tryd.func53 rfl) (fun c => maskI a = Int.ofNat c)
    (by kernel_rfl) h1 h2 (enL_ok c) hp
theorem list_at_4 (a : Int) {c : Nat} (h1 : 64 ≤ c) (h2 : c < 64 + 16) (hp : maskI a = Int.ofNat c) : Meets P 53 (.cons (.int false .u32 a) .nil) (rowL (lst c)) :=
  meets_from (P := P) 64 16 (E := enL) (gs := gsOf [c_tz]) (fun _ => envL_among) (fun _ => rfl) 400 (g := 53) (args := fun c => (.cons (.int false .u32 a) .nil)) (res := fun c => (rowL (lst c))) (Has.of hn Tryd.func53 rfl) (fun c => maskI a = Int.ofNat c)
    (by kernel_rfl) h1 h2 (enL_ok c) hp
theorem list_at_5 (a : Int) {c : Nat} (h1 : 80 ≤ c) (h2 : c < 80 + 16) (hp : maskI a = Int.ofNat c) : Meets P 53 (.cons (.int false .u32 a) .nil) (rowL (lst c)) :=
  meets_from (P := P) 80 16 (E := enL) (gs := gsOf [c_tz]) (fun _ => envL_among) (fun _ => rfl) 400 (g := 53) (args := fun c => (.cons (.int false .u32 a) .nil)) (res := fun c => (rowL (lst c))) (Has.of hn Tryd.func53 rfl) (fun c => maskI a = Int.ofNat c)
    (by kernel_rfl) h1 h2 (enL_ok c) hp
theorem list_at_6 (a : Int) {c : Nat} (h1 : 96 ≤ c) (h2 : c < 96 + 16) (hp : maskI a = Int.ofNat c) : Meets P 53 (.cons (.int false .u32 a) .nil) (rowL (lst c)) :=
  meets_from (P := P) 96 16 (E := enL) (gs := gsOf [c_tz]) (fun _ => envL_among) (fun _ => rfl) 400 (g := 53) (args := fun c => (.cons (.int false .u32 a) .nil)) (res := fun c => (rowL (lst c))) (Has.of hn Tryd.func53 rfl) (fun c => maskI a = Int.ofNat c)
    (by kernel_rfl) h1 h2 (enL_ok c) hp
theorem list_at_7 (a : Int) {c : Nat} (h1 : 112 ≤ c) (h2 : c < 112 + 16) (hp : maskI a = Int.ofNat c) : Meets P 53 (.cons (.int false .u32 a) .nil) (rowL (lst c)) :=
  meets_from (P := P) 112 16 (E := enL) (gs := gsOf [c_tz]) (fun _ => envL_among) (fun _ => rfl) 400 (g := 53) (args := fun c => (.cons (.int false .u32 a) .nil)) (res := fun c => (rowL (lst c))) (Has.of hn Tryd.func53 rfl) (fun c => maskI a = Int.ofNat c)
    (by kernel_rfl) h1 h2 (enL_ok c) hp
theorem list_at_8 (a : Int) {c : Nat} (h1 : 128 ≤ c) (h2 : c < 128 + 16) (hp : maskI a = Int.ofNat c) : Meets P 53 (.cons (.int false .u32 a) .nil) (rowL (lst c)) :=
  meets_from (P := P) 128 16 (E := enL) (gs := gsOf [c_tz]) (fun _ => envL_among) (fun _ => rfl) 400 (g := 53) (args := fun c => (.cons (.int false .u32 a) .nil)) (res := fun c => (rowL (lst c))) (Has.of hn Tryd.func53 rfl) (fun c => maskI a = Int.ofNat c)
    (by kernel_rfl) h1 h2 (enL_ok c) hp
theorem list_at_9 (a : Int) {c : Nat} (h1 : 144 ≤ c) (h2 : c < 144 + 16) (hp : maskI a = Int.ofNat c) : Meets P 53 (.cons (.int false .u32 a) .nil) (rowL (lst c)) :=
  meets_from (P := P) 144 16 (E := enL) (gs := gsOf [c_tz]) (fun _ => envL_among) (fun _ => rfl) 400 (g := 53) (args := fun c => (.cons (.int false .u32 a) .nil)) (res := fun c => (rowL (lst c))) (Has.of hn Tryd.func53 rfl) (fun c => maskI a = Int.ofNat c)
    (by kernel_rfl) h1 h2 (enL_ok c) hp
theorem list_at_10 (a : Int) {c : Nat} (h1 : 160 ≤ c) (h2 : c < 160 + 16) (hp : maskI a = Int.ofNat c) : Meets P 53 (.cons (.int false .u32 a) .nil) (rowL (lst c)) :=
  meets_from (P := P) 160 16 (E := enL) (gs := gsOf [c_tz]) (fun _ => envL_among) (fun _ => rfl) 400 (g := 53) (args := fun c => (.cons (.int false .u32 a) .nil)) (res := fun c => (rowL (lst c))) (Has.of hn Tryd.func53 rfl) (fun c => maskI a = Int.ofNat c)
    (by kernel_rfl) h1 h2 (enL_ok c) hp
theorem list_at_11 (a : Int) {c : Nat} (h1 : 176 ≤ c) (h2 : c < 176 + 16) (hp : maskI a = Int.ofNat c) : Meets P 53 (.cons (.int false .u32 a) .nil) (rowL (lst c)) :=
  meets_from (P := P) 176 16 (E := enL) (gs := gsOf [c_tz]) (fun _ => envL_among) (fun _ => rfl) 400 (g := 53) (args := fun c => (.cons (.int false .u32 a) .nil)) (res := fun c => (rowL (lst c))) (Has.of hn Tryd.func53 rfl) (fun c => maskI a = Int.ofNat c)
    (by kernel_rfl) h1 h2 (enL_ok c) hp
theorem list_at_12 (a : Int) {c : Nat} (h1 : 192 ≤ c) (h2 : c < 192 + 16) (hp : maskI a = Int.ofNat c) : Meets P 53 (.cons (.int false .u32 a) .nil) (rowL (lst c)) :=
  meets_from (P := P) 192 16 (E := enL) (gs := gsOf [c_tz]) (fun _ => envL_among) (fun _ => rfl) 400 (g := 53) (args := fun c => (.cons (.int false .u32 a) .nil)) (res := fun c => (rowL (lst c))) (Has.of hn Tryd.func53 rfl) (fun c => maskI a = Int.ofNat c)
    (by kernel_rfl) h1 h2 (enL_ok c) hp
theorem list_at_13 (a : Int) {c : Nat} (h1 : 208 ≤ c) (h2 : c < 208 + 16) (hp : maskI a = Int.ofNat c) : Meets P 53 (.cons (.int false .u32 a) .nil) (rowL (lst c)) :=
  meets_from (P := P) 208 16 (E := enL) (gs := gsOf [c_tz]) (fun _ => envL_among) (fun _ => rfl) 400 (g := 53) (args := fun c => (.cons (.int false .u32 a) .nil)) (res := fun c => (rowL (lst c))) (Has.of hn Tryd.func53 rfl) (fun c => maskI a = Int.ofNat c)
    (by kernel_rfl) h1 h2 (enL_ok c) hp
theorem list_at_14 (a : Int) {c : Nat} (h1 : 224 ≤ c) (h2 : c < 224 + 16) (hp : maskI a = Int.ofNat c) : Meets P 53 (.cons (.int false .u32 a) .nil) (rowL (lst c)) :=
  meets_from (P := P) 224 16 (E := enL) (gs := gsOf [c_tz]) (fun _ => envL_among) (fun _ => rfl) 400 (g := 53) (args := fun c => (.cons (.int false .u32 a) .nil)) (res := fun c => (rowL (lst c))) (Has.of hn Tryd.func53 rfl) (fun c => maskI a = Int.ofNat c)
    (by kernel_rfl) h1 h2 (enL_ok c) hp
theorem list_at_15 (a : Int) {c : Nat} (h1 : 240 ≤ c) (h2 : c < 240 + 16) (hp : maskI a = Int.ofNat c) : Meets P 53 (.cons (.int false .u32 a) .nil) (rowL (lst c)) :=
  meets_from (P := P) 240 16 (E := enL) (gs := gsOf [c_tz]) (fun _ => envL_among) (fun _ => rfl) 400 (g := 53) (args := fun c => (.cons (.int false .u32 a) .nil)) (res := fun c => (rowL (lst c))) (Has.of hn Tryd.func53 rfl) (fun c => maskI a = Int.ofNat c)
    (by kernel_rfl) h1 h2 (enL_ok c) hp
theorem list_at (a : Int) {c : Nat} (hc : c < 256) (hp : maskI a = Int.ofNat c) : Meets P 53 (.cons (.int false .u32 a) .nil) (rowL (lst c)) := by
  rcases Nat.lt_or_ge c 16 with h | h0
  · exact list_at_0 a (by omega) (by omega) hp
  rcases Nat.lt_or_ge c 32 with h | h1
  · exact list_at_1 a (by omega) (by omega) hp
  rcases Nat.lt_or_ge c 48 with h | h2
  · exact list_at_2 a (by omega) (by omega) hp
  rcases Nat.lt_or_ge c 64 with h | h3
  · exact list_at_3 a (by omega) (by omega) hp
  rcases Nat.lt_or_ge c 80 with h | h4
  · exact list_at_4 a (by omega) (by omega) hp
  rcases Nat.lt_or_ge c 96 with h | h5
  · exact list_at_5 a (by omega) (by omega) hp
  rcases Nat.lt_or_ge c 112 with h | h6
  · exact list_at_6 a (by omega) (by omega) hp
  rcases Nat.lt_or_ge c 128 with h | h7
  · exact list_at_7 a (by omega) (by omega) hp
  rcases Nat.lt_or_ge c 144 with h | h8
  · exact list_at_8 a (by omega) (by omega) hp
  rcases Nat.lt_or_ge c 160 with h | h9
  · exact list_at_9 a (by omega) (by omega) hp
  rcases Nat.lt_or_ge c 176 with h | h10
  · exact list_at_10 a (by omega) (by omega) hp
  rcases Nat.lt_or_ge c 192 with h | h11
  · exact list_at_11 a (by omega) (by omega) hp
  rcases Nat.lt_or_ge c 208 with h | h12
  · exact list_at_12 a (by omega) (by omega) hp
  rcases Nat.lt_or_ge c 224 with h | h13
  · exact list_at_13 a (by omega) (by omega) hp
  rcases Nat.lt_or_ge c 240 with h | h14
  · exact list_at_14 a (by omega) (by omega) hp
  exact list_at_15 a (by omega) (by omega) hp
end Go.Proofs.YtpeekgekmjldlaaDoor
