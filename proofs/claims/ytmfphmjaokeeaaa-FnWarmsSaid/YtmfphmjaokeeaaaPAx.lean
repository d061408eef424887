-- Written by a program of this session (wip/hprint.py, over the kit's print).
import Derived.Test.YtmfphmjaokeeaaaPAx0
import Derived.Test.YtmfphmjaokeeaaaPAx1
import Derived.Test.YtmfphmjaokeeaaaPAx2
import Derived.Test.YtmfphmjaokeeaaaPAx3
namespace Go.Proofs.Ytmfphmjaokeeaaa.PA
open Go.RowKit Go.Proofs.YtmfphmjaokeeaaaW.PrintWords Go.Proofs.YtmfphmjaokeeaaaW.PrintLast Go.Proofs.YtmfphmjaokeeaaaW.PrintMore
attribute [local go_sem] max2_int min2_int max_two min_two max_three min_three max_four min_four   -- for this text's walks alone
set_option linter.unusedVariables false
set_option linter.unusedSimpArgs false

end Go.Proofs.Ytmfphmjaokeeaaa.PA
