/- The clock's contracts and its loops' families, together. -/
import Derived.Test.YtpeekgekmjldlaaDoorKcL
import Derived.Test.YtpeekgekmjldlaaDoorKeM
import Derived.Test.YtpeekgekmjldlaaDoorKx
namespace Go.Proofs.YtpeekgekmjldlaaDoor
open Go.Fw
/-- A quotient's multiple. -/
theorem tmod_quot (t s : Int) : t - Int.tmod t s = Int.tdiv t s * s := by
  have := Int.tmod_add_tdiv_mul t s
  omega
theorem tmod_in {t s : Int} (ht : 0 ≤ t) (hs : 0 < s) : 0 ≤ Int.tmod t s ∧ Int.tmod t s < s ∧ Int.tmod t s ≤ t := by
  rw [Int.tmod_eq_emod_of_nonneg ht]
  have h1 := Int.emod_nonneg t (Int.ne_of_gt hs)
  have h2 := Int.emod_lt_of_pos t hs
  have h3 := Int.mul_ediv_add_emod t s
  have h4 := Int.mul_nonneg (Int.le_of_lt hs) (Int.ediv_nonneg ht (Int.le_of_lt hs))
  exact ⟨h1, h2, by omega⟩
end Go.Proofs.YtpeekgekmjldlaaDoor
