-- Written by a program of this session (wip/hprint.py, over the kit's print).
import Derived.Test.YtciceapcnjoogaaPDx0
import Derived.Test.YtciceapcnjoogaaPDx1
import Derived.Test.YtciceapcnjoogaaPDx2
import Derived.Test.YtciceapcnjoogaaPDx3
import Derived.Test.YtciceapcnjoogaaPDx4
import Derived.Test.YtciceapcnjoogaaPDx5
import Derived.Test.YtciceapcnjoogaaPDx6
namespace Go.Proofs.Ytciceapcnjoogaa.PD
open Go.RowKit Go.Proofs.YtciceapcnjoogaaW.PrintWords Go.Proofs.YtciceapcnjoogaaW.PrintLast Go.Proofs.YtciceapcnjoogaaW.PrintMore
attribute [local go_sem] max2_int min2_int max_two min_two max_three min_three max_four min_four   -- for this text's walks alone
set_option linter.unusedVariables false
set_option linter.unusedSimpArgs false

end Go.Proofs.Ytciceapcnjoogaa.PD
