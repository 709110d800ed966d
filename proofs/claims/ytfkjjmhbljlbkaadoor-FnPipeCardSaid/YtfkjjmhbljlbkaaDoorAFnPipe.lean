-- Typed by a program of this session (wip/print2.sh, given.py), after the kit's print: functions as plain Lean, and their contracts.
import Derived.Test.YtfkjjmhbljlbkaaDoorAFnPipe0
import Derived.Test.YtfkjjmhbljlbkaaDoorAFnPipe1
import Derived.Test.YtfkjjmhbljlbkaaDoorAFnPipe2
import Derived.Test.YtfkjjmhbljlbkaaDoorAFnPipe3
import Derived.Test.YtfkjjmhbljlbkaaDoorAFnPipe4
import Derived.Test.YtfkjjmhbljlbkaaDoorAFnPipe5
import Derived.Test.YtfkjjmhbljlbkaaDoorAFnPipe6
import Derived.Test.YtfkjjmhbljlbkaaDoorAFnPipe7
import Derived.Test.YtfkjjmhbljlbkaaDoorAFnPipe8
import Derived.Test.YtfkjjmhbljlbkaaDoorAFnPipe9
import Derived.Test.YtfkjjmhbljlbkaaDoorAFnPipe10
namespace Go.Proofs.YtfkjjmhbljlbkaaDoor.P
open Go.RowKit Go.Proofs.YtfkjjmhbljlbkaaDoorW.PrintWords Go.Proofs.YtfkjjmhbljlbkaaDoorW.PrintLast Go.Proofs.YtfkjjmhbljlbkaaDoorW.PrintMore
attribute [local go_sem] max2_int min2_int max_two min_two max_three min_three max_four min_four   -- for this text's walks alone
set_option linter.unusedVariables false
set_option linter.unusedSimpArgs false

end Go.Proofs.YtfkjjmhbljlbkaaDoor.P
