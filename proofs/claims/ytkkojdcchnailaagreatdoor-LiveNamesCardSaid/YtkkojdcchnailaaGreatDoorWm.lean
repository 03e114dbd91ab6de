/- Contracts of calls of literal arguments. -/
import Derived.Test.YtkkojdcchnailaaGreatDoorWa
import Derived.Test.YtkkojdcchnailaaGreatDoorGwLi
namespace Go.Proofs.YtkkojdcchnailaaGreatDoor
open Go.Fw
set_option maxRecDepth 100000
def m60_0_a : V := (.cons (.agg (.cons (.rsl true 4 1 (rowsL [(.cons (.int true .i64 1) (.cons (.int true .i64 256) (.cons (.int true .i64 0) (.cons (.int true .i64 0) .nil))))])) (.cons (.rsl true 4 2 (rowsL [(.cons (.int true .i64 1) (.cons (.int true .i64 1) (.cons (.int true .u32 3) (.cons (.int true .u32 0) .nil)))), (.cons (.int true .i64 2) (.cons (.int true .i64 1) (.cons (.int true .u32 3) (.cons (.int true .u32 0) .nil))))])) .nil))) .nil)
def m60_0_r : V := (.int true .i64 0)
theorem m60_0 : Meets P 60 m60_0_a m60_0_r :=
  meets_leaf (E := envL P [c_vcheck, c_sleeps] [] true) (gs := gsOf [c_vcheck, c_sleeps]) envL_among (en_ok (l := [c_vcheck, c_sleeps]) ⟨c_vcheck_ok, c_sleeps_ok, trivial⟩) 400 (Has.of hn Tryz.func60 rfl) (by kernel_rfl) rfl
noncomputable def c_m60 : Con := litCon 60 [(m60_0_a, m60_0_r)]
theorem c_m60_ok : c_m60.Ok P := litCon_ok ⟨m60_0, trivial⟩
def m186_0_a : V := (.cons (.agg (.cons (.rsl true 4 1 (rowsL [(.cons (.int true .i64 1) (.cons (.int true .i64 256) (.cons (.int true .i64 0) (.cons (.int true .i64 0) .nil))))])) (.cons (.rsl true 4 2 (rowsL [(.cons (.int true .i64 1) (.cons (.int true .i64 1) (.cons (.int true .u32 3) (.cons (.int true .u32 0) .nil)))), (.cons (.int true .i64 2) (.cons (.int true .i64 1) (.cons (.int true .u32 3) (.cons (.int true .u32 0) .nil))))])) .nil))) (.cons (.int true .i64 1) .nil))
def m186_0_r : V := (.tup (.cons (.agg (.cons (.int true .i64 1) (.cons (.int true .i64 1) (.cons (.int true .u32 3) (.cons (.int true .u32 0) .nil))))) (.cons (.bool true true) .nil)))
theorem m186_0 : Meets P 186 m186_0_a m186_0_r :=
  meets_leaf (E := envL P [c_vcheck, c_sleeps, c_m60] [] true) (gs := gsOf [c_vcheck, c_sleeps, c_m60]) envL_among (en_ok (l := [c_vcheck, c_sleeps, c_m60]) ⟨c_vcheck_ok, c_sleeps_ok, c_m60_ok, trivial⟩) 400 (Has.of hn Tryz.func186 rfl) (by kernel_rfl) rfl
def m186_1_a : V := (.cons (.agg (.cons (.rsl true 4 1 (rowsL [(.cons (.int true .i64 1) (.cons (.int true .i64 256) (.cons (.int true .i64 0) (.cons (.int true .i64 0) .nil))))])) (.cons (.rsl true 4 2 (rowsL [(.cons (.int true .i64 1) (.cons (.int true .i64 1) (.cons (.int true .u32 3) (.cons (.int true .u32 0) .nil)))), (.cons (.int true .i64 2) (.cons (.int true .i64 1) (.cons (.int true .u32 3) (.cons (.int true .u32 0) .nil))))])) .nil))) (.cons (.int true .i64 2) .nil))
def m186_1_r : V := (.tup (.cons (.agg (.cons (.int true .i64 2) (.cons (.int true .i64 1) (.cons (.int true .u32 3) (.cons (.int true .u32 0) .nil))))) (.cons (.bool true true) .nil)))
theorem m186_1 : Meets P 186 m186_1_a m186_1_r :=
  meets_leaf (E := envL P [c_vcheck, c_sleeps, c_m60] [] true) (gs := gsOf [c_vcheck, c_sleeps, c_m60]) envL_among (en_ok (l := [c_vcheck, c_sleeps, c_m60]) ⟨c_vcheck_ok, c_sleeps_ok, c_m60_ok, trivial⟩) 400 (Has.of hn Tryz.func186 rfl) (by kernel_rfl) rfl
noncomputable def c_m186 : Con := litCon 186 [(m186_0_a, m186_0_r), (m186_1_a, m186_1_r)]
theorem c_m186_ok : c_m186.Ok P := litCon_ok ⟨m186_0, m186_1, trivial⟩
def m20_0_a : V := (.cons (.agg (.cons (.int true .i64 0) (.cons (.rsl true 2 2 (rowsL [(.cons (.int true .i64 0) (.cons (.int true .i64 0) .nil)), (.cons (.int true .i64 0) (.cons (.int true .i64 1) .nil))])) (.cons (.rsl true 1 1 (rowsL [(.cons (.int true .u32 3) .nil)])) (.cons (.rsl true 4 1 (rowsL [(.cons (.int true .i64 1) (.cons (.int true .i64 256) (.cons (.int true .i64 0) (.cons (.int true .i64 0) .nil))))])) (.cons (.rsl true 4 2 (rowsL [(.cons (.int true .i64 1) (.cons (.int true .i64 1) (.cons (.int true .u32 3) (.cons (.int true .u32 0) .nil)))), (.cons (.int true .i64 2) (.cons (.int true .i64 1) (.cons (.int true .u32 3) (.cons (.int true .u32 0) .nil))))])) (.cons .nilsl (.cons (.rsl true 11 2 (rowsL [(.cons (.int true .i64 1) (.cons (.int true .i64 1) (.cons (.int true .i64 0) (.cons (.int true .u32 0) (.cons (.int true .i64 0) (.cons (.int true .u64 0) (.cons (.int true .u64 0) (.cons (.int true .u64 256) (.cons (.int true .u64 1) (.cons (.int true .i64 0) (.cons (.int true .i64 0) .nil))))))))))), (.cons (.int true .i64 2) (.cons (.int true .i64 1) (.cons (.int true .i64 0) (.cons (.int true .u32 0) (.cons (.int true .i64 0) (.cons (.int true .u64 0) (.cons (.int true .u64 0) (.cons (.int true .u64 256) (.cons (.int true .u64 2) (.cons (.int true .i64 0) (.cons (.int true .i64 0) .nil)))))))))))])) (.cons (.rsl true 2 1 (rowsL [(.cons (.int true .i64 0) (.cons (.int true .i64 0) .nil))])) (.cons .nilsl (.cons (.int true .i64 0) (.cons .nilsl (.cons .nilsl (.cons (.rsl true 2 2 (rowsL [(.cons (.int true .i64 1) (.cons (.int true .i64 0) .nil)), (.cons (.int true .i64 2) (.cons (.int true .i64 1) .nil))])) (.cons (.int true .u64 2) .nil))))))))))))))) .nil)
def m20_0_r : V := (.int true .i64 0)
theorem m20_0 : Meets P 20 m20_0_a m20_0_r :=
  meets_leaf (E := envL P [c_vcheck, c_sleeps, c_m60, c_m186] [] true) (gs := gsOf [c_vcheck, c_sleeps, c_m60, c_m186]) envL_among (en_ok (l := [c_vcheck, c_sleeps, c_m60, c_m186]) ⟨c_vcheck_ok, c_sleeps_ok, c_m60_ok, c_m186_ok, trivial⟩) 400 (Has.of hn Tryz.func20 rfl) (by kernel_rfl) rfl
noncomputable def c_m20 : Con := litCon 20 [(m20_0_a, m20_0_r)]
theorem c_m20_ok : c_m20.Ok P := litCon_ok ⟨m20_0, trivial⟩
end Go.Proofs.YtkkojdcchnailaaGreatDoor
