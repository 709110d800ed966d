-- Typed by a program of this session (wip/print2.sh, given.py), after the kit's print: functions as plain Lean, and their contracts.
import Derived.Test.YtfkjjmhbljlbkaaDoorAFnPipeAll0
import Derived.Test.YtfkjjmhbljlbkaaDoorAFnPipeAll1
import Derived.Test.YtfkjjmhbljlbkaaDoorAFnPipeAll2
import Derived.Test.YtfkjjmhbljlbkaaDoorAFnPipeAll3
import Derived.Test.YtfkjjmhbljlbkaaDoorAFnPipeAll4
import Derived.Test.YtfkjjmhbljlbkaaDoorAFnPipeAll5
import Derived.Test.YtfkjjmhbljlbkaaDoorAFnPipeAll6
namespace Go.Proofs.YtfkjjmhbljlbkaaDoor.P
open Go.RowKit Go.Proofs.YtfkjjmhbljlbkaaDoorW.PrintWords Go.Proofs.YtfkjjmhbljlbkaaDoorW.PrintLast Go.Proofs.YtfkjjmhbljlbkaaDoorW.PrintMore
attribute [local go_sem] max2_int min2_int max_two min_two max_three min_three max_four min_four   -- for this text's walks alone
set_option linter.unusedVariables false
set_option linter.unusedSimpArgs false

end Go.Proofs.YtfkjjmhbljlbkaaDoor.P
