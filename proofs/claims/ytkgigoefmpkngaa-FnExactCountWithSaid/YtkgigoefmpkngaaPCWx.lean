-- Written by a program of this session (wip/hprint.py, over the kit's print).
import Derived.Test.YtkgigoefmpkngaaPCWx0
import Derived.Test.YtkgigoefmpkngaaPCWx1
import Derived.Test.YtkgigoefmpkngaaPCWx2
import Derived.Test.YtkgigoefmpkngaaPCWx3
import Derived.Test.YtkgigoefmpkngaaPCWx4
namespace Go.Proofs.Ytkgigoefmpkngaa.PCW
open Go.RowKit Go.Proofs.YtkgigoefmpkngaaW.PrintWords Go.Proofs.YtkgigoefmpkngaaW.PrintLast Go.Proofs.YtkgigoefmpkngaaW.PrintMore
attribute [local go_sem] max2_int min2_int max_two min_two max_three min_three max_four min_four   -- for this text's walks alone
set_option linter.unusedVariables false
set_option linter.unusedSimpArgs false

end Go.Proofs.Ytkgigoefmpkngaa.PCW
