/- What the small functions return. -/
import Derived.Test.YtooiiihaijpbaaaRxData
import Derived.Test.YtooiiihaijpbaaaRxT
set_option linter.unusedVariables false
set_option linter.unusedSimpArgs false
namespace Go.Proofs.Ytooiiihaijpbaaa.Rx
open Go.Rx Go.Proofs

theorem num_con (n : Int) (h : -9223372036854775808 ≤ n ∧ n ≤ 9223372036854775807) : Con P 15 [I n] (I n) [] := by
  refine Con.of T_ok Try.func15 rfl (by kernel_rfl) (by kernel_rfl) (aw_of T_ok (by kernel_rfl) ?_)
  conv => whnf
  exact retI rfl
theorem between_con (n lo hi : Int) : Con P 27 [I n, I lo, I hi] (Bl (decide (lo ≤ n) && decide (n ≤ hi))) [] := by
  refine Con.of T_ok Try.func27 rfl (by kernel_rfl) (by kernel_rfl) (aw_of T_ok (by kernel_rfl) ?_)
  conv => whnf
  split <;> rename_i h <;> conv => whnf
  · refine retB ?_; rw [show decide (lo ≤ n) = true from h]; rfl
  · refine retB ?_; rw [show decide (lo ≤ n) = false from h]; rfl

end Go.Proofs.Ytooiiihaijpbaaa.Rx
