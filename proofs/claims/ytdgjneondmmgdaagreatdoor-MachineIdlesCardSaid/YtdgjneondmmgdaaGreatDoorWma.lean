/- Contracts of calls of literal arguments. -/
import Derived.Test.YtdgjneondmmgdaaGreatDoorWv
import Derived.Test.YtdgjneondmmgdaaGreatDoorFg
set_option linter.unusedSimpArgs false
set_option linter.unusedVariables false
namespace Go.Proofs.YtdgjneondmmgdaaGreatDoor
open Go.Fw
set_option maxRecDepth 100000
def m64_0_a : V := (.cons (.agg (.cons (.rsl true 4 1 (rowsL [(.cons (.int true .i64 1) (.cons (.int true .i64 256) (.cons (.int true .i64 0) (.cons (.int true .i64 0) .nil))))])) (.cons (.esl true 4) .nil))) .nil)
def m64_0_r : V := (.int true .i64 0)
theorem m64_0 : Meets P 64 m64_0_a m64_0_r :=
  meets_ask (E := envL P [c_w67, c_w80] [] true) (gs := gsOf [c_w67, c_w80]) envL_among (en_ok (l := [c_w67, c_w80]) ⟨c_w67_ok, c_w80_ok, trivial⟩) 400 (p := True) (Has.of hn Tryz.func64 rfl) (by kernel_rfl) trivial
def m64_1_a : V := (.cons (.agg (.cons (.rsl true 4 1 (rowsL [(.cons (.int true .i64 1) (.cons (.int true .i64 256) (.cons (.int true .i64 0) (.cons (.int true .i64 0) .nil))))])) (.cons (.rsl true 4 1 (rowsL [(.cons (.int true .i64 1) (.cons (.int true .i64 1) (.cons (.int true .u32 255) (.cons (.int true .u32 0) .nil))))])) .nil))) .nil)
def m64_1_r : V := (.int true .i64 0)
theorem m64_1 : Meets P 64 m64_1_a m64_1_r :=
  meets_ask (E := envL P [c_w67, c_w80] [] true) (gs := gsOf [c_w67, c_w80]) envL_among (en_ok (l := [c_w67, c_w80]) ⟨c_w67_ok, c_w80_ok, trivial⟩) 400 (p := True) (Has.of hn Tryz.func64 rfl) (by kernel_rfl) trivial
def m64_2_a : V := (.cons (.agg (.cons (.rsl true 4 1 (rowsL [(.cons (.int true .i64 1) (.cons (.int true .i64 256) (.cons (.int true .i64 0) (.cons (.int true .i64 0) .nil))))])) (.cons (.rsl true 4 2 (rowsL [(.cons (.int true .i64 1) (.cons (.int true .i64 1) (.cons (.int true .u32 255) (.cons (.int true .u32 0) .nil)))), (.cons (.int true .i64 2) (.cons (.int true .i64 1) (.cons (.int true .u32 255) (.cons (.int true .u32 0) .nil))))])) .nil))) .nil)
def m64_2_r : V := (.int true .i64 0)
theorem m64_2 : Meets P 64 m64_2_a m64_2_r :=
  meets_ask (E := envL P [c_w67, c_w80] [] true) (gs := gsOf [c_w67, c_w80]) envL_among (en_ok (l := [c_w67, c_w80]) ⟨c_w67_ok, c_w80_ok, trivial⟩) 400 (p := True) (Has.of hn Tryz.func64 rfl) (by kernel_rfl) trivial
def m64_3_a : V := (.cons (.agg (.cons .nilsl (.cons .nilsl .nil))) .nil)
def m64_3_r : V := (.int true .i64 0)
theorem m64_3 : Meets P 64 m64_3_a m64_3_r :=
  meets_ask (E := envL P [c_w67, c_w80] [] true) (gs := gsOf [c_w67, c_w80]) envL_among (en_ok (l := [c_w67, c_w80]) ⟨c_w67_ok, c_w80_ok, trivial⟩) 400 (p := True) (Has.of hn Tryz.func64 rfl) (by kernel_rfl) trivial
noncomputable def c_m64 : Con := litCon 64 [(m64_0_a, m64_0_r), (m64_1_a, m64_1_r), (m64_2_a, m64_2_r), (m64_3_a, m64_3_r)]
theorem c_m64_ok : c_m64.Ok P := litCon_ok ⟨m64_0, m64_1, m64_2, m64_3, trivial⟩
def m148_0_a : V := (.cons (.agg (.cons (.rsl true 4 1 (rowsL [(.cons (.int true .i64 1) (.cons (.int true .i64 256) (.cons (.int true .i64 0) (.cons (.int true .i64 0) .nil))))])) (.cons (.rsl true 4 1 (rowsL [(.cons (.int true .i64 1) (.cons (.int true .i64 1) (.cons (.int true .u32 255) (.cons (.int true .u32 0) .nil))))])) .nil))) (.cons (.int true .i64 1) .nil))
def m148_0_r : V := (.tup (.cons (.agg (.cons (.int true .i64 1) (.cons (.int true .i64 1) (.cons (.int true .u32 255) (.cons (.int true .u32 0) .nil))))) (.cons (.bool true true) .nil)))
theorem m148_0 : Meets P 148 m148_0_a m148_0_r :=
  meets_ask (E := envL P [c_w67, c_w80, c_m64] [] true) (gs := gsOf [c_w67, c_w80, c_m64]) envL_among (en_ok (l := [c_w67, c_w80, c_m64]) ⟨c_w67_ok, c_w80_ok, c_m64_ok, trivial⟩) 400 (p := True) (Has.of hn Tryz.func148 rfl) (by kernel_rfl) trivial
def m148_1_a : V := (.cons (.agg (.cons (.rsl true 4 1 (rowsL [(.cons (.int true .i64 1) (.cons (.int true .i64 256) (.cons (.int true .i64 0) (.cons (.int true .i64 0) .nil))))])) (.cons (.rsl true 4 2 (rowsL [(.cons (.int true .i64 1) (.cons (.int true .i64 1) (.cons (.int true .u32 255) (.cons (.int true .u32 0) .nil)))), (.cons (.int true .i64 2) (.cons (.int true .i64 1) (.cons (.int true .u32 255) (.cons (.int true .u32 0) .nil))))])) .nil))) (.cons (.int true .i64 1) .nil))
def m148_1_r : V := (.tup (.cons (.agg (.cons (.int true .i64 1) (.cons (.int true .i64 1) (.cons (.int true .u32 255) (.cons (.int true .u32 0) .nil))))) (.cons (.bool true true) .nil)))
theorem m148_1 : Meets P 148 m148_1_a m148_1_r :=
  meets_ask (E := envL P [c_w67, c_w80, c_m64] [] true) (gs := gsOf [c_w67, c_w80, c_m64]) envL_among (en_ok (l := [c_w67, c_w80, c_m64]) ⟨c_w67_ok, c_w80_ok, c_m64_ok, trivial⟩) 400 (p := True) (Has.of hn Tryz.func148 rfl) (by kernel_rfl) trivial
def m148_2_a : V := (.cons (.agg (.cons (.rsl true 4 1 (rowsL [(.cons (.int true .i64 1) (.cons (.int true .i64 256) (.cons (.int true .i64 0) (.cons (.int true .i64 0) .nil))))])) (.cons (.rsl true 4 2 (rowsL [(.cons (.int true .i64 1) (.cons (.int true .i64 1) (.cons (.int true .u32 255) (.cons (.int true .u32 0) .nil)))), (.cons (.int true .i64 2) (.cons (.int true .i64 1) (.cons (.int true .u32 255) (.cons (.int true .u32 0) .nil))))])) .nil))) (.cons (.int true .i64 2) .nil))
def m148_2_r : V := (.tup (.cons (.agg (.cons (.int true .i64 2) (.cons (.int true .i64 1) (.cons (.int true .u32 255) (.cons (.int true .u32 0) .nil))))) (.cons (.bool true true) .nil)))
theorem m148_2 : Meets P 148 m148_2_a m148_2_r :=
  meets_ask (E := envL P [c_w67, c_w80, c_m64] [] true) (gs := gsOf [c_w67, c_w80, c_m64]) envL_among (en_ok (l := [c_w67, c_w80, c_m64]) ⟨c_w67_ok, c_w80_ok, c_m64_ok, trivial⟩) 400 (p := True) (Has.of hn Tryz.func148 rfl) (by kernel_rfl) trivial
noncomputable def c_m148 : Con := litCon 148 [(m148_0_a, m148_0_r), (m148_1_a, m148_1_r), (m148_2_a, m148_2_r)]
theorem c_m148_ok : c_m148.Ok P := litCon_ok ⟨m148_0, m148_1, m148_2, trivial⟩
def m534_0_a : V := (.cons (.agg (.cons (.int true .u64 0) (.cons (.int true .u64 0) (.cons (.int true .u64 256) .nil)))) (.cons (.agg (.cons (.int true .u64 0) (.cons (.int true .u64 0) (.cons (.int true .u64 256) .nil)))) .nil))
def m534_0_r : V := (.int true .i64 0)
theorem m534_0 : Meets P 534 m534_0_a m534_0_r :=
  meets_ask (E := envL P [c_w67, c_w80, c_m64, c_m148] [] true) (gs := gsOf [c_w67, c_w80, c_m64, c_m148]) envL_among (en_ok (l := [c_w67, c_w80, c_m64, c_m148]) ⟨c_w67_ok, c_w80_ok, c_m64_ok, c_m148_ok, trivial⟩) 400 (p := True) (Has.of hn Tryz.func534 rfl) (by kernel_rfl) trivial
def m534_1_a : V := (.cons (.agg (.cons (.int true .u64 0) (.cons (.int true .u64 2000000) (.cons (.int true .u64 256) .nil)))) (.cons (.agg (.cons (.int true .u64 0) (.cons (.int true .u64 0) (.cons (.int true .u64 256) .nil)))) .nil))
def m534_1_r : V := (.int true .i64 1)
theorem m534_1 : Meets P 534 m534_1_a m534_1_r :=
  meets_ask (E := envL P [c_w67, c_w80, c_m64, c_m148] [] true) (gs := gsOf [c_w67, c_w80, c_m64, c_m148]) envL_among (en_ok (l := [c_w67, c_w80, c_m64, c_m148]) ⟨c_w67_ok, c_w80_ok, c_m64_ok, c_m148_ok, trivial⟩) 400 (p := True) (Has.of hn Tryz.func534 rfl) (by kernel_rfl) trivial
def m534_2_a : V := (.cons (.agg (.cons (.int true .u64 0) (.cons (.int true .u64 2000000) (.cons (.int true .u64 256) .nil)))) (.cons (.agg (.cons (.int true .u64 0) (.cons (.int true .u64 2000000) (.cons (.int true .u64 256) .nil)))) .nil))
def m534_2_r : V := (.int true .i64 0)
theorem m534_2 : Meets P 534 m534_2_a m534_2_r :=
  meets_ask (E := envL P [c_w67, c_w80, c_m64, c_m148] [] true) (gs := gsOf [c_w67, c_w80, c_m64, c_m148]) envL_among (en_ok (l := [c_w67, c_w80, c_m64, c_m148]) ⟨c_w67_ok, c_w80_ok, c_m64_ok, c_m148_ok, trivial⟩) 400 (p := True) (Has.of hn Tryz.func534 rfl) (by kernel_rfl) trivial
noncomputable def c_m534 : Con := litCon 534 [(m534_0_a, m534_0_r), (m534_1_a, m534_1_r), (m534_2_a, m534_2_r)]
theorem c_m534_ok : c_m534.Ok P := litCon_ok ⟨m534_0, m534_1, m534_2, trivial⟩
def m459_0_a : V := (.cons (.agg (.cons (.int true .u64 0) (.cons (.int true .u64 0) (.cons (.int true .u64 256) .nil)))) (.cons (.agg (.cons (.int true .u64 0) (.cons (.int true .u64 0) (.cons (.int true .u64 256) .nil)))) (.cons (.int true .u64 268435456) .nil)))
def m459_0_r : V := (.tup (.cons (.agg (.cons (.int true .u64 0) (.cons (.int true .u64 0) (.cons (.int true .u64 256) .nil)))) (.cons (.int true .i64 0) .nil)))
theorem m459_0 : Meets P 459 m459_0_a m459_0_r :=
  meets_ask (E := envL P [c_w67, c_w80, c_m64, c_m148, c_m534] [] true) (gs := gsOf [c_w67, c_w80, c_m64, c_m148, c_m534]) envL_among (en_ok (l := [c_w67, c_w80, c_m64, c_m148, c_m534]) ⟨c_w67_ok, c_w80_ok, c_m64_ok, c_m148_ok, c_m534_ok, trivial⟩) 400 (p := True) (Has.of hn Tryz.func459 rfl) (by kernel_rfl) trivial
def m459_1_a : V := (.cons (.agg (.cons (.int true .u64 0) (.cons (.int true .u64 2000000) (.cons (.int true .u64 256) .nil)))) (.cons (.agg (.cons (.int true .u64 0) (.cons (.int true .u64 2000000) (.cons (.int true .u64 256) .nil)))) (.cons (.int true .u64 268435456) .nil)))
def m459_1_r : V := (.tup (.cons (.agg (.cons (.int true .u64 0) (.cons (.int true .u64 2000000) (.cons (.int true .u64 256) .nil)))) (.cons (.int true .i64 0) .nil)))
theorem m459_1 : Meets P 459 m459_1_a m459_1_r :=
  meets_ask (E := envL P [c_w67, c_w80, c_m64, c_m148, c_m534] [] true) (gs := gsOf [c_w67, c_w80, c_m64, c_m148, c_m534]) envL_among (en_ok (l := [c_w67, c_w80, c_m64, c_m148, c_m534]) ⟨c_w67_ok, c_w80_ok, c_m64_ok, c_m148_ok, c_m534_ok, trivial⟩) 400 (p := True) (Has.of hn Tryz.func459 rfl) (by kernel_rfl) trivial
noncomputable def c_m459 : Con := litCon 459 [(m459_0_a, m459_0_r), (m459_1_a, m459_1_r)]
theorem c_m459_ok : c_m459.Ok P := litCon_ok ⟨m459_0, m459_1, trivial⟩
def m356_0_a : V := (.cons (.agg (.cons (.int true .u64 0) (.cons (.int true .u64 0) (.cons (.int true .u64 256) .nil)))) (.cons (.int true .u64 2000000) .nil))
def m356_0_r : V := (.tup (.cons (.agg (.cons (.int true .u64 0) (.cons (.int true .u64 2000000) (.cons (.int true .u64 256) .nil)))) (.cons (.int true .i64 0) .nil)))
theorem m356_0 : Meets P 356 m356_0_a m356_0_r :=
  meets_ask (E := envL P [c_w67, c_w80, c_m64, c_m148, c_m534, c_m459] [] true) (gs := gsOf [c_w67, c_w80, c_m64, c_m148, c_m534, c_m459]) envL_among (en_ok (l := [c_w67, c_w80, c_m64, c_m148, c_m534, c_m459]) ⟨c_w67_ok, c_w80_ok, c_m64_ok, c_m148_ok, c_m534_ok, c_m459_ok, trivial⟩) 400 (p := True) (Has.of hn Tryz.func356 rfl) (by kernel_rfl) trivial
noncomputable def c_m356 : Con := litCon 356 [(m356_0_a, m356_0_r)]
theorem c_m356_ok : c_m356.Ok P := litCon_ok ⟨m356_0, trivial⟩
end Go.Proofs.YtdgjneondmmgdaaGreatDoor
