-- Written by a program of this session (wip/hprint.py, over the kit's print).
import Derived.Test.YtmfjopfoeefelaaPBx0
import Derived.Test.YtmfjopfoeefelaaPBx1
import Derived.Test.YtmfjopfoeefelaaPBx2
import Derived.Test.YtmfjopfoeefelaaPBx3
import Derived.Test.YtmfjopfoeefelaaPBx4
import Derived.Test.YtmfjopfoeefelaaPBx5
namespace Go.Proofs.Ytmfjopfoeefelaa.PB
open Go.RowKit Go.Proofs.YtmfjopfoeefelaaW.PrintWords Go.Proofs.YtmfjopfoeefelaaW.PrintLast Go.Proofs.YtmfjopfoeefelaaW.PrintMore
attribute [local go_sem] max2_int min2_int max_two min_two max_three min_three max_four min_four   -- for this text's walks alone
set_option linter.unusedVariables false
set_option linter.unusedSimpArgs false

end Go.Proofs.Ytmfjopfoeefelaa.PB
