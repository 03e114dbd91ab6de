/- Cpuset: the document's List, by a set's last eight bits. -/
import Derived.Test.YtpeekgekmjldlaaDoorCcC
namespace Go.Proofs.YtpeekgekmjldlaaDoor
open Go.Fw
set_option maxRecDepth 100000
set_option linter.unusedVariables false
/-- A set's last eight bits are these. -/
def isLow (c : Nat) (b : Int) : Prop := lowN b = c ∧ 0 ≤ b ∧ b < 4294967296
def c_hasC (c : Nat) : Con := { g := 51, al := true, ans := fun x => match x with
  | .cons (.int _ .u32 b) (.cons (.int true .i64 (.ofNat i)) .nil) => bif Nat.blt i 8 then some (.where_ (isLow c b) (mkBool true (Nat.testBit c i))) else none
  | _ => none }
theorem lowN_mod {b : Int} (h0 : 0 ≤ b) (h1 : b < 4294967296) : (lowN b : Int) = b % 256 := by
  unfold lowN
  rw [BitVec.toNat_and]
  have e : (255#32).toNat = 2 ^ 8 - 1 := rfl
  rw [e, Nat.and_two_pow_sub_one_eq_mod, BitVec.toNat_ofInt]
  omega
theorem has_low {c : Nat} {b : Int} (h : isLow c b) {i : Nat} (hi : i < 8) : vHas_0_p b (Int.ofNat i) = Nat.testBit c i := by
  obtain ⟨rfl, h0, h1⟩ := h
  obtain ⟨n, rfl⟩ := Int.eq_ofNat_of_zero_le h0
  have hm := lowN_mod h0 h1
  have hl : lowN (n : Int) = n % 256 := by omega
  rw [hl]
  have e : (256 : Nat) = 2 ^ 8 := rfl
  rw [e, Nat.testBit_mod_two_pow]
  simp only [hi, decide_true, Bool.true_and]
  unfold vHas_0_p
  have h2 : (bif decide (Int.ofNat i ≥ 0) then decide (Int.ofNat i < 8) else false) = true := by
    simp only [show (Int.ofNat i ≥ 0) from Int.natCast_nonneg i, decide_true, cond_true, decide_eq_true_eq]
    show (i : Int) < 8; omega
  rw [h2]
  simp only [cond_true]
  have h3 : min (Int.ofNat i).toNat (IntKind.bits .u32) = i := by
    show min i 32 = i; omega
  rw [h3, Nat.testBit_eq_decide_div_mod_eq]
  have h4 : Int.fdiv (n : Int) (2 ^ i) = ((n / 2 ^ i : Nat) : Int) := by
    rw [Int.fdiv_eq_ediv_of_nonneg _ (Int.pow_nonneg (by decide))]
    simp
  rw [h4]
  generalize n / 2 ^ i = q
  have h5 : Int.tmod (q : Int) 2 = ((q % 2 : Nat) : Int) := rfl
  rw [h5]
  by_cases hq : q % 2 = 1
  · simp [hq]
  · have : q % 2 = 0 := by omega
    simp [this]
theorem c_hasC_ok (c : Nat) : (c_hasC c).Ok P := by
  intro x
  dsimp only [c_hasC]
  split
  · rename_i v h
    split at h
    · rename_i st b i
      cases hb : Nat.blt i 8 <;> rw [hb] at h <;> cases h
    · cases h
  · rename_i p v h
    split at h
    · rename_i st b i
      cases hb : Nat.blt i 8
      · rw [hb] at h; cases h
      · rw [hb] at h
        injection h with h; injection h with h1 h2; subst h1; subst h2
        intro hp
        rw [mkBool_eq, ← has_low hp (by simpa [Nat.blt_eq] using hb), ← vHas_0_pe]
        have h := Meets.of_soft (args := .cons (.int st .u32 b) (.cons (.int true .i64 (Int.ofNat i)) .nil)) (vHas_meets b (Int.ofNat i))
        refine ⟨h.1, fun F w xs h1 h2 h3 => (h.2 F w xs h1 h2 h3).mono fun _ _ ⟨x, F', e1, e2, e3⟩ => ⟨x, F', e1, e2, ?_⟩⟩
        simp only [R] at e3 ⊢
        exact e3
    · cases h
  · trivial
noncomputable abbrev enH (c : Nat) : Env := enM [c_hasC c]
theorem enH_ok (c : Nat) : (enH c).Ok := enM_ok (l := [c_hasC c]) ⟨c_hasC_ok c, trivial⟩
theorem rlist_at_0 (a : Int) {c : Nat} (h1 : 0 ≤ c) (h2 : c < 0 + 16) (hp : isLow c a) : Meets P 54 (.cons (.int false .u32 a) .nil) (rowL (lst c)) :=
  meets_from (P := P) 0 16 (E := enH) (gs := gsOf [c_hasC 0]) (fun _ => envL_among) (fun _ => rfl) 400 (g := 54) (args := fun c => (.cons (.int false .u32 a) .nil)) (res := fun c => (rowL (lst c))) (Has.of hn Tryd.func54 rfl) (fun c => isLow c a)
    (by kernel_rfl) h1 h2 (enH_ok c) hp
theorem rlist_at_1 (a : Int) {c : Nat} (h1 : 16 ≤ c) (h2 : c < 16 + 16) (hp : isLow c a) : Meets P 54 (.cons (.int false .u32 a) .nil) (rowL (lst c)) :=
  meets_from (P := P) 16 16 (E := enH) (gs := gsOf [c_hasC 0]) (fun _ => envL_among) (fun _ => rfl) 400 (g := 54) (args := fun c => (.cons (.int false .u32 a) .nil)) (res := fun c => (rowL (lst c))) (Has.of hn Tryd.func54 rfl) (fun c => isLow c a)
    (by kernel_rfl) h1 h2 (enH_ok c) hp
theorem rlist_at_2 (a : Int) {c : Nat} (h1 : 32 ≤ c) (h2 : c < 32 + 16) (hp : isLow c a) : Meets P 54 (.cons (.int false .u32 a) .nil) (rowL (lst c)) :=
  meets_from (P := P) 32 16 (E := enH) (gs := gsOf [c_hasC 0]) (fun _ => envL_among) (fun _ => rfl) 400 (g := 54) (args := fun c => (.cons (.int false .u32 a) .nil)) (res := fun c => (rowL (lst c))) (Has.of hn Tryd.func54 rfl) (fun c => isLow c a)
    (by kernel_rfl) h1 h2 (enH_ok c) hp
theorem rlist_at_3 (a : Int) {c : Nat} (h1 : 48 ≤ c) (h2 : c < 48 + 16) (hp : isLow c a) : Meets P 54 (.cons (.int false .u32 a) .nil) (rowL (lst c)) :=
  meets_from (P := P) 48 16 (E := enH) (gs := gsOf [c_hasC 0]) (fun _ => envL_among) (fun _ => rfl) 400 (g := 54) (args := fun c => (.cons (.int false .u32 a) .nil)) (res := fun c => (rowL (lst c))) (Has.of hn Tryd.func54 rfl) (fun c => isLow c a)
    (by kernel_rfl) h1 h2 (enH_ok c) hp
theorem rlist_at_4 (a : Int) {c : Nat} (h1 : 64 ≤ c) (h2 : c < 64 + 16) (hp : isLow c a) : Meets P 54 (.cons (.int false .u32 a) .nil) (rowL (lst c)) :=
  meets_from (P := P) 64 16 (E := enH) (gs := gsOf [c_hasC 0]) (fun _ => envL_among) (fun _ => rfl) 400 (g := 54) (args := fun c => (.cons (.int false .u32 a) .nil)) (res := fun c => (rowL (lst c))) (Has.of hn Tryd.func54 rfl) (fun c => isLow c a)
    (by kernel_rfl) h1 h2 (enH_ok c) hp
theorem rlist_at_5 (a : Int) {c : Nat} (h1 : 80 ≤ c) (h2 : c < 80 + 16) (hp : isLow c a) : Meets P 54 (.cons (.int false .u32 a) .nil) (rowL (lst c)) :=
  meets_from (P := P) 80 16 (E := enH) (gs := gsOf [c_hasC 0]) (fun _ => envL_among) (fun _ => rfl) 400 (g := 54) (args := fun c => (.cons (.int false .u32 a) .nil)) (res := fun c => (rowL (lst c))) (Has.of hn Tryd.func54 rfl) (fun c => isLow c a)
    (by kernel_rfl) h1 h2 (enH_ok c) hp
theorem rlist_at_6 (a : Int) {c : Nat} (h1 : 96 ≤ c) (h2 : c < 96 + 16) (hp : isLow c a) : Meets P 54 (.cons (.int false .u32 a) .nil) (rowL (lst c)) :=
  meets_from (P := P) 96 16 (E := enH) (gs := gsOf [c_hasC 0]) (fun _ => envL_among) (fun _ => rfl) 400 (g := 54) (args := fun c => (.cons (.int false .u32 a) .nil)) (res := fun c => (rowL (lst c))) (Has.of hn Tryd.func54 rfl) (fun c => isLow c a)
    (by kernel_rfl) h1 h2 (enH_ok c) hp
theorem rlist_at_7 (a : Int) {c : Nat} (h1 : 112 ≤ c) (h2 : c < 112 + 16) (hp : isLow c a) : Meets P 54 (.cons (.int false .u32 a) .nil) (rowL (lst c)) :=
  meets_from (P := P) 112 16 (E := enH) (gs := gsOf [c_hasC 0]) (fun _ => envL_among) (fun _ => rfl) 400 (g := 54) (args := fun c => (.cons (.int false .u32 a) .nil)) (res := fun c => (rowL (lst c))) (Has.of hn Tryd.func54 rfl) (fun c => isLow c a)
    (by kernel_rfl) h1 h2 (enH_ok c) hp
theorem rlist_at_8 (a : Int) {c : Nat} (h1 : 128 ≤ c) (h2 : c < 128 + 16) (hp : isLow c a) : Meets P 54 (.cons (.int false .u32 a) .nil) (rowL (lst c)) :=
  meets_from (P := P) 128 16 (E := enH) (gs := gsOf [c_hasC 0]) (fun _ => envL_among) (fun _ => rfl) 400 (g := 54) (args := fun c => (.cons (.int false .u32 a) .nil)) (res := fun c => (rowL (lst c))) (Has.of hn Tryd.func54 rfl) (fun c => isLow c a)
    (by kernel_rfl) h1 h2 (enH_ok c) hp
theorem rlist_at_9 (a : Int) {c : Nat} (h1 : 144 ≤ c) (h2 : c < 144 + 16) (hp : isLow c a) : Meets P 54 (.cons (.int false .u32 a) .nil) (rowL (lst c)) :=
  meets_from (P := P) 144 16 (E := enH) (gs := gsOf [c_hasC 0]) (fun _ => envL_among) (fun _ => rfl) 400 (g := 54) (args := fun c => (.cons (.int false .u32 a) .nil)) (res := fun c => (rowL (lst c))) (Has.of hn Tryd.func54 rfl) (fun c => isLow c a)
    (by kernel_rfl) h1 h2 (enH_ok c) hp
theorem rlist_at_10 (a : Int) {c : Nat} (h1 : 160 ≤ c) (h2 : c < 160 + 16) (hp : isLow c a) : Meets P 54 (.cons (.int false .u32 a) .nil) (rowL (lst c)) :=
  meets_from (P := P) 160 16 (E := enH) (gs := gsOf [c_hasC 0]) (fun _ => envL_among) (fun _ => rfl) 400 (g := 54) (args := fun c => (.cons (.int false .u32 a) .nil)) (res := fun c => (rowL (lst c))) (Has.of hn Tryd.func54 rfl) (fun c => isLow c a)
    (by kernel_rfl) h1 h2 (enH_ok c) hp
theorem rlist_at_11 (a : Int) {c : Nat} (h1 : 176 ≤ c) (h2 : c < 176 + 16) (hp : isLow c a) : Meets P 54 (.cons (.int false .u32 a) .nil) (rowL (lst c)) :=
  meets_from (P := P) 176 16 (E := enH) (gs := gsOf [c_hasC 0]) (fun _ => envL_among) (fun _ => rfl) 400 (g := 54) (args := fun c => (.cons (.int false .u32 a) .nil)) (res := fun c => (rowL (lst c))) (Has.of hn Tryd.func54 rfl) (fun c => isLow c a)
    (by kernel_rfl) h1 h2 (enH_ok c) hp
theorem rlist_at_12 (a : Int) {c : Nat} (h1 : 192 ≤ c) (h2 : c < 192 + 16) (hp : isLow c a) : Meets P 54 (.cons (.int false .u32 a) .nil) (rowL (lst c)) :=
  meets_from (P := P) 192 16 (E := enH) (gs := gsOf [c_hasC 0]) (fun _ => envL_among) (fun _ => rfl) 400 (g := 54) (args := fun c => (.cons (.int false .u32 a) .nil)) (res := fun c => (rowL (lst c))) (Has.of hn Tryd.func54 rfl) (fun c => isLow c a)
    (by kernel_rfl) h1 h2 (enH_ok c) hp
theorem rlist_at_13 (a : Int) {c : Nat} (h1 : 208 ≤ c) (h2 : c < 208 + 16) (hp : isLow c a) : Meets P 54 (.cons (.int false .u32 a) .nil) (rowL (lst c)) :=
  meets_from (P := P) 208 16 (E := enH) (gs := gsOf [c_hasC 0]) (fun _ => envL_among) (fun _ => rfl) 400 (g := 54) (args := fun c => (.cons (.int false .u32 a) .nil)) (res := fun c => (rowL (lst c))) (Has.of hn Tryd.func54 rfl) (fun c => isLow c a)
    (by kernel_rfl) h1 h2 (enH_ok c) hp
theorem rlist_at_14 (a : Int) {c : Nat} (h1 : 224 ≤ c) (h2 : c < 224 + 16) (hp : isLow c a) : Meets P 54 (.cons (.int false .u32 a) .nil) (rowL (lst c)) :=
  meets_from (P := P) 224 16 (E := enH) (gs := gsOf [c_hasC 0]) (fun _ => envL_among) (fun _ => rfl) 400 (g := 54) (args := fun c => (.cons (.int false .u32 a) .nil)) (res := fun c => (rowL (lst c))) (Has.of hn Tryd.func54 rfl) (fun c => isLow c a)
    (by kernel_rfl) h1 h2 (enH_ok c) hp
theorem rlist_at_15 (a : Int) {c : Nat} (h1 : 240 ≤ c) (h2 : c < 240 + 16) (hp : isLow c a) : Meets P 54 (.cons (.int false .u32 a) .nil) (rowL (lst c)) :=
  meets_from (P := P) 240 16 (E := enH) (gs := gsOf [c_hasC 0]) (fun _ => envL_among) (fun _ => rfl) 400 (g := 54) (args := fun c => (.cons (.int false .u32 a) .nil)) (res := fun c => (rowL (lst c))) (Has.of hn Tryd.func54 rfl) (fun c => isLow c a)
    (by kernel_rfl) h1 h2 (enH_ok c) hp
theorem rlist_at (a : Int) {c : Nat} (hc : c < 256) (hp : isLow c a) : Meets P 54 (.cons (.int false .u32 a) .nil) (rowL (lst c)) := by
  rcases Nat.lt_or_ge c 16 with h | h0
  · exact rlist_at_0 a (by omega) (by omega) hp
  rcases Nat.lt_or_ge c 32 with h | h1
  · exact rlist_at_1 a (by omega) (by omega) hp
  rcases Nat.lt_or_ge c 48 with h | h2
  · exact rlist_at_2 a (by omega) (by omega) hp
  rcases Nat.lt_or_ge c 64 with h | h3
  · exact rlist_at_3 a (by omega) (by omega) hp
  rcases Nat.lt_or_ge c 80 with h | h4
  · exact rlist_at_4 a (by omega) (by omega) hp
  rcases Nat.lt_or_ge c 96 with h | h5
  · exact rlist_at_5 a (by omega) (by omega) hp
  rcases Nat.lt_or_ge c 112 with h | h6
  · exact rlist_at_6 a (by omega) (by omega) hp
  rcases Nat.lt_or_ge c 128 with h | h7
  · exact rlist_at_7 a (by omega) (by omega) hp
  rcases Nat.lt_or_ge c 144 with h | h8
  · exact rlist_at_8 a (by omega) (by omega) hp
  rcases Nat.lt_or_ge c 160 with h | h9
  · exact rlist_at_9 a (by omega) (by omega) hp
  rcases Nat.lt_or_ge c 176 with h | h10
  · exact rlist_at_10 a (by omega) (by omega) hp
  rcases Nat.lt_or_ge c 192 with h | h11
  · exact rlist_at_11 a (by omega) (by omega) hp
  rcases Nat.lt_or_ge c 208 with h | h12
  · exact rlist_at_12 a (by omega) (by omega) hp
  rcases Nat.lt_or_ge c 224 with h | h13
  · exact rlist_at_13 a (by omega) (by omega) hp
  rcases Nat.lt_or_ge c 240 with h | h14
  · exact rlist_at_14 a (by omega) (by omega) hp
  exact rlist_at_15 a (by omega) (by omega) hp
end Go.Proofs.YtpeekgekmjldlaaDoor
