-- Written by a program of this session (wip/hprint.py, over the kit's print).
import Derived.Test.YthdgbngnddkkiaaPHx0
import Derived.Test.YthdgbngnddkkiaaPHx1
import Derived.Test.YthdgbngnddkkiaaPHx2
namespace Go.Proofs.Ythdgbngnddkkiaa.PH
open Go.RowKit Go.Proofs.YthdgbngnddkkiaaW.PrintWords Go.Proofs.YthdgbngnddkkiaaW.PrintLast Go.Proofs.YthdgbngnddkkiaaW.PrintMore
attribute [local go_sem] max2_int min2_int max_two min_two max_three min_three max_four min_four   -- for this text's walks alone
set_option linter.unusedVariables false
set_option linter.unusedSimpArgs false

end Go.Proofs.Ythdgbngnddkkiaa.PH
