-- Written by a program of this session (wip/hprint.py, over the kit's print).
import Derived.Test.YtdlolekpdophcaaPEx0
import Derived.Test.YtdlolekpdophcaaPEx1
import Derived.Test.YtdlolekpdophcaaPEx2
import Derived.Test.YtdlolekpdophcaaPEx3
import Derived.Test.YtdlolekpdophcaaPEx4
import Derived.Test.YtdlolekpdophcaaPEx5
import Derived.Test.YtdlolekpdophcaaPEx6
import Derived.Test.YtdlolekpdophcaaPEx7
namespace Go.Proofs.Ytdlolekpdophcaa.PE
open Go.RowKit Go.Proofs.YtdlolekpdophcaaW.PrintWords Go.Proofs.YtdlolekpdophcaaW.PrintLast Go.Proofs.YtdlolekpdophcaaW.PrintMore
attribute [local go_sem] max2_int min2_int max_two min_two max_three min_three max_four min_four   -- for this text's walks alone
set_option linter.unusedVariables false
set_option linter.unusedSimpArgs false

end Go.Proofs.Ytdlolekpdophcaa.PE
