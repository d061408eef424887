-- Written by a program of this session (wip/hprint.py, over the kit's print).
import Derived.Test.YtkgigoefmpkngaaPCXx0
import Derived.Test.YtkgigoefmpkngaaPCXx1
import Derived.Test.YtkgigoefmpkngaaPCXx2
import Derived.Test.YtkgigoefmpkngaaPCXx3
import Derived.Test.YtkgigoefmpkngaaPCXx4
import Derived.Test.YtkgigoefmpkngaaPCXx5
namespace Go.Proofs.Ytkgigoefmpkngaa.PCX
open Go.RowKit Go.Proofs.YtkgigoefmpkngaaW.PrintWords Go.Proofs.YtkgigoefmpkngaaW.PrintLast Go.Proofs.YtkgigoefmpkngaaW.PrintMore
attribute [local go_sem] max2_int min2_int max_two min_two max_three min_three max_four min_four   -- for this text's walks alone
set_option linter.unusedVariables false
set_option linter.unusedSimpArgs false

end Go.Proofs.Ytkgigoefmpkngaa.PCX
