/- The laws' own functions over slices of ints: equal, copied, marked, held; and 'in'. -/
import Derived.Test.YthdgbngnddkkiaaBase
import Derived.Test.YthdgbngnddkkiaaPHx
namespace Go.Proofs.Ythdgbngnddkkiaa.Pure
set_option linter.unusedVariables false
set_option linter.unusedSimpArgs false
open Go.RowKit Go.Proofs.Ythdgbngnddkkiaa.PH Go.Proofs.Ythdgbngnddkkiaa.Base Go.Proofs.YthdgbngnddkkiaaW.PrintWords Go.Proofs.YthdgbngnddkkiaaW.PrintLast

theorem spec_in (a b c : Int) : spec_l01In.f a b c = some (inB b c a) := by
  unfold spec_l01In.f inB
  by_cases h : b ≤ a <;> simp [h]
theorem inB_iff (lo hi n : Int) : inB lo hi n = true ↔ lo ≤ n ∧ n ≤ hi := by simp [inB]
theorem inB_false (lo hi n : Int) : inB lo hi n = false ↔ ¬ (lo ≤ n ∧ n ≤ hi) := by
  rw [← inB_iff, Bool.not_eq_true]
end Go.Proofs.Ythdgbngnddkkiaa.Pure
