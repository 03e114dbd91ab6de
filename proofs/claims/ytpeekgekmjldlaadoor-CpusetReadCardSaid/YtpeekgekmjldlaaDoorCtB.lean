/- Cpuset: the document's Text, by literals. -/
import Derived.Test.YtpeekgekmjldlaaDoorCtA
namespace Go.Proofs.YtpeekgekmjldlaaDoor
open Go.Fw
set_option maxRecDepth 100000
set_option linter.unusedVariables false
theorem rtext_lit_0 {c : Nat} (h1 : 0 ≤ c) (h2 : c < 0 + 16) : Meets P 36 (litA c) (.str true (txt c)) :=
  meets_lits (P := P) 0 16 (E := fun _ => enX []) (gs := gsOf []) (fun _ => envL_among) (fun _ => rfl) 400 (g := 36) (args := litA) (res := fun c => (.str true (txt c))) (Has.of hn Tryd.func36 rfl)
    (by kernel_rfl) h1 h2 (enX_ok trivial)
theorem rtext_lit_1 {c : Nat} (h1 : 16 ≤ c) (h2 : c < 16 + 16) : Meets P 36 (litA c) (.str true (txt c)) :=
  meets_lits (P := P) 16 16 (E := fun _ => enX []) (gs := gsOf []) (fun _ => envL_among) (fun _ => rfl) 400 (g := 36) (args := litA) (res := fun c => (.str true (txt c))) (Has.of hn Tryd.func36 rfl)
    (by kernel_rfl) h1 h2 (enX_ok trivial)
theorem rtext_lit_2 {c : Nat} (h1 : 32 ≤ c) (h2 : c < 32 + 16) : Meets P 36 (litA c) (.str true (txt c)) :=
  meets_lits (P := P) 32 16 (E := fun _ => enX []) (gs := gsOf []) (fun _ => envL_among) (fun _ => rfl) 400 (g := 36) (args := litA) (res := fun c => (.str true (txt c))) (Has.of hn Tryd.func36 rfl)
    (by kernel_rfl) h1 h2 (enX_ok trivial)
theorem rtext_lit_3 {c : Nat} (h1 : 48 ≤ c) (h2 : c < 48 + 16) : Meets P 36 (litA c) (.str true (txt c)) :=
  meets_lits (P := P) 48 16 (E := fun _ => enX []) (gs := gsOf []) (fun _ => envL_among) (fun _ => rfl) 400 (g := 36) (args := litA) (res := fun c => (.str true (txt c))) (Has.of hn Tryd.func36 rfl)
    (by kernel_rfl) h1 h2 (enX_ok trivial)
theorem rtext_lit_4 {c : Nat} (h1 : 64 ≤ c) (h2 : c < 64 + 16) : Meets P 36 (litA c) (.str true (txt c)) :=
  meets_lits (P := P) 64 16 (E := fun _ => enX []) (gs := gsOf []) (fun _ => envL_among) (fun _ => rfl) 400 (g := 36) (args := litA) (res := fun c => (.str true (txt c))) (Has.of hn Tryd.func36 rfl)
    (by kernel_rfl) h1 h2 (enX_ok trivial)
theorem rtext_lit_5 {c : Nat} (h1 : 80 ≤ c) (h2 : c < 80 + 16) : Meets P 36 (litA c) (.str true (txt c)) :=
  meets_lits (P := P) 80 16 (E := fun _ => enX []) (gs := gsOf []) (fun _ => envL_among) (fun _ => rfl) 400 (g := 36) (args := litA) (res := fun c => (.str true (txt c))) (Has.of hn Tryd.func36 rfl)
    (by kernel_rfl) h1 h2 (enX_ok trivial)
theorem rtext_lit_6 {c : Nat} (h1 : 96 ≤ c) (h2 : c < 96 + 16) : Meets P 36 (litA c) (.str true (txt c)) :=
  meets_lits (P := P) 96 16 (E := fun _ => enX []) (gs := gsOf []) (fun _ => envL_among) (fun _ => rfl) 400 (g := 36) (args := litA) (res := fun c => (.str true (txt c))) (Has.of hn Tryd.func36 rfl)
    (by kernel_rfl) h1 h2 (enX_ok trivial)
theorem rtext_lit_7 {c : Nat} (h1 : 112 ≤ c) (h2 : c < 112 + 16) : Meets P 36 (litA c) (.str true (txt c)) :=
  meets_lits (P := P) 112 16 (E := fun _ => enX []) (gs := gsOf []) (fun _ => envL_among) (fun _ => rfl) 400 (g := 36) (args := litA) (res := fun c => (.str true (txt c))) (Has.of hn Tryd.func36 rfl)
    (by kernel_rfl) h1 h2 (enX_ok trivial)
theorem rtext_lit_8 {c : Nat} (h1 : 128 ≤ c) (h2 : c < 128 + 16) : Meets P 36 (litA c) (.str true (txt c)) :=
  meets_lits (P := P) 128 16 (E := fun _ => enX []) (gs := gsOf []) (fun _ => envL_among) (fun _ => rfl) 400 (g := 36) (args := litA) (res := fun c => (.str true (txt c))) (Has.of hn Tryd.func36 rfl)
    (by kernel_rfl) h1 h2 (enX_ok trivial)
theorem rtext_lit_9 {c : Nat} (h1 : 144 ≤ c) (h2 : c < 144 + 16) : Meets P 36 (litA c) (.str true (txt c)) :=
  meets_lits (P := P) 144 16 (E := fun _ => enX []) (gs := gsOf []) (fun _ => envL_among) (fun _ => rfl) 400 (g := 36) (args := litA) (res := fun c => (.str true (txt c))) (Has.of hn Tryd.func36 rfl)
    (by kernel_rfl) h1 h2 (enX_ok trivial)
theorem rtext_lit_10 {c : Nat} (h1 : 160 ≤ c) (h2 : c < 160 + 16) : Meets P 36 (litA c) (.str true (txt c)) :=
  meets_lits (P := P) 160 16 (E := fun _ => enX []) (gs := gsOf []) (fun _ => envL_among) (fun _ => rfl) 400 (g := 36) (args := litA) (res := fun c => (.str true (txt c))) (Has.of hn Tryd.func36 rfl)
    (by kernel_rfl) h1 h2 (enX_ok trivial)
theorem rtext_lit_11 {c : Nat} (h1 : 176 ≤ c) (h2 : c < 176 + 16) : Meets P 36 (litA c) (.str true (txt c)) :=
  meets_lits (P := P) 176 16 (E := fun _ => enX []) (gs := gsOf []) (fun _ => envL_among) (fun _ => rfl) 400 (g := 36) (args := litA) (res := fun c => (.str true (txt c))) (Has.of hn Tryd.func36 rfl)
    (by kernel_rfl) h1 h2 (enX_ok trivial)
theorem rtext_lit_12 {c : Nat} (h1 : 192 ≤ c) (h2 : c < 192 + 16) : Meets P 36 (litA c) (.str true (txt c)) :=
  meets_lits (P := P) 192 16 (E := fun _ => enX []) (gs := gsOf []) (fun _ => envL_among) (fun _ => rfl) 400 (g := 36) (args := litA) (res := fun c => (.str true (txt c))) (Has.of hn Tryd.func36 rfl)
    (by kernel_rfl) h1 h2 (enX_ok trivial)
theorem rtext_lit_13 {c : Nat} (h1 : 208 ≤ c) (h2 : c < 208 + 16) : Meets P 36 (litA c) (.str true (txt c)) :=
  meets_lits (P := P) 208 16 (E := fun _ => enX []) (gs := gsOf []) (fun _ => envL_among) (fun _ => rfl) 400 (g := 36) (args := litA) (res := fun c => (.str true (txt c))) (Has.of hn Tryd.func36 rfl)
    (by kernel_rfl) h1 h2 (enX_ok trivial)
theorem rtext_lit_14 {c : Nat} (h1 : 224 ≤ c) (h2 : c < 224 + 16) : Meets P 36 (litA c) (.str true (txt c)) :=
  meets_lits (P := P) 224 16 (E := fun _ => enX []) (gs := gsOf []) (fun _ => envL_among) (fun _ => rfl) 400 (g := 36) (args := litA) (res := fun c => (.str true (txt c))) (Has.of hn Tryd.func36 rfl)
    (by kernel_rfl) h1 h2 (enX_ok trivial)
theorem rtext_lit_15 {c : Nat} (h1 : 240 ≤ c) (h2 : c < 240 + 16) : Meets P 36 (litA c) (.str true (txt c)) :=
  meets_lits (P := P) 240 16 (E := fun _ => enX []) (gs := gsOf []) (fun _ => envL_among) (fun _ => rfl) 400 (g := 36) (args := litA) (res := fun c => (.str true (txt c))) (Has.of hn Tryd.func36 rfl)
    (by kernel_rfl) h1 h2 (enX_ok trivial)
theorem rtext_lit {c : Nat} (hc : c < 256) : Meets P 36 (litA c) (.str true (txt c)) := by
  rcases Nat.lt_or_ge c 16 with h | h0
  · exact rtext_lit_0 (by omega) (by omega)
  rcases Nat.lt_or_ge c 32 with h | h1
  · exact rtext_lit_1 (by omega) (by omega)
  rcases Nat.lt_or_ge c 48 with h | h2
  · exact rtext_lit_2 (by omega) (by omega)
  rcases Nat.lt_or_ge c 64 with h | h3
  · exact rtext_lit_3 (by omega) (by omega)
  rcases Nat.lt_or_ge c 80 with h | h4
  · exact rtext_lit_4 (by omega) (by omega)
  rcases Nat.lt_or_ge c 96 with h | h5
  · exact rtext_lit_5 (by omega) (by omega)
  rcases Nat.lt_or_ge c 112 with h | h6
  · exact rtext_lit_6 (by omega) (by omega)
  rcases Nat.lt_or_ge c 128 with h | h7
  · exact rtext_lit_7 (by omega) (by omega)
  rcases Nat.lt_or_ge c 144 with h | h8
  · exact rtext_lit_8 (by omega) (by omega)
  rcases Nat.lt_or_ge c 160 with h | h9
  · exact rtext_lit_9 (by omega) (by omega)
  rcases Nat.lt_or_ge c 176 with h | h10
  · exact rtext_lit_10 (by omega) (by omega)
  rcases Nat.lt_or_ge c 192 with h | h11
  · exact rtext_lit_11 (by omega) (by omega)
  rcases Nat.lt_or_ge c 208 with h | h12
  · exact rtext_lit_12 (by omega) (by omega)
  rcases Nat.lt_or_ge c 224 with h | h13
  · exact rtext_lit_13 (by omega) (by omega)
  rcases Nat.lt_or_ge c 240 with h | h14
  · exact rtext_lit_14 (by omega) (by omega)
  exact rtext_lit_15 (by omega) (by omega)
end Go.Proofs.YtpeekgekmjldlaaDoor
