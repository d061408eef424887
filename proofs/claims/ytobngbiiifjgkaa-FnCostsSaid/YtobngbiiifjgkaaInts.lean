/- The laws' own functions over slices of ints: equal, copied, marked, held; and 'in'. -/
import Derived.Test.YtobngbiiifjgkaaBase
import Derived.Test.YtobngbiiifjgkaaPGx1
import Derived.Test.YtobngbiiifjgkaaPGx2
import Derived.Test.YtobngbiiifjgkaaPGx3
import Derived.Test.YtobngbiiifjgkaaPGx4
import Derived.Test.YtobngbiiifjgkaaPGx5
import Derived.Test.YtobngbiiifjgkaaPGx6
namespace Go.Proofs.Ytobngbiiifjgkaa.Pure
set_option linter.unusedVariables false
set_option linter.unusedSimpArgs false
open Go.RowKit Go.Proofs.Ytobngbiiifjgkaa.PG Go.Proofs.Ytobngbiiifjgkaa.Base Go.Proofs.YtobngbiiifjgkaaW.PrintWords Go.Proofs.YtobngbiiifjgkaaW.PrintLast

theorem spec_in (a b c : Int) : spec_l01In.f a b c = some (inB b c a) := by
  unfold spec_l01In.f inB
  by_cases h : b ≤ a <;> simp [h]
theorem inB_iff (lo hi n : Int) : inB lo hi n = true ↔ lo ≤ n ∧ n ≤ hi := by simp [inB]
theorem inB_false (lo hi n : Int) : inB lo hi n = false ↔ ¬ (lo ≤ n ∧ n ≤ hi) := by
  rw [← inB_iff, Bool.not_eq_true]
end Go.Proofs.Ytobngbiiifjgkaa.Pure
