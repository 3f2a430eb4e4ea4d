-- Written by a program of this claim (qprint.py over the kit's print): functions of the translation as Lean functions, with their walks.
import Derived.Test.YtfemiphklanjaaaDoorM0
import Derived.Test.YtfemiphklanjaaaDoorM1
import Derived.Test.YtfemiphklanjaaaDoorM2
namespace Go.Proofs.YtfemiphklanjaaaDoor.Q
open Go.RowKit Go.Proofs.YtfemiphklanjaaaDoorW.PrintWords Go.Proofs.YtfemiphklanjaaaDoorW.PrintLast Go.Proofs.YtfemiphklanjaaaDoorW.PrintMore
attribute [local go_sem] max2_int min2_int max_two min_two max_three min_three max_four min_four   -- for this text's walks alone
set_option linter.unusedVariables false
set_option linter.unusedSimpArgs false

end Go.Proofs.YtfemiphklanjaaaDoor.Q
