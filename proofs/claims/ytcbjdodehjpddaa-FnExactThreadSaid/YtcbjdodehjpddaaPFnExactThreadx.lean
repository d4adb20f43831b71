-- Printed by a turned copy of the print (wip/gen/patchprint.py), with contracts given by hand.
import Derived.Test.YtcbjdodehjpddaaPFnExactThreadx0
import Derived.Test.YtcbjdodehjpddaaPFnExactThreadx1
import Derived.Test.YtcbjdodehjpddaaPFnExactThreadx2
import Derived.Test.YtcbjdodehjpddaaPFnExactThreadx3
import Derived.Test.YtcbjdodehjpddaaPFnExactThreadx4
import Derived.Test.YtcbjdodehjpddaaPFnExactThreadx5
import Derived.Test.YtcbjdodehjpddaaPFnExactThreadx6
import Derived.Test.YtcbjdodehjpddaaPFnExactThreadx7
namespace Go.Proofs.Ytcbjdodehjpddaa.PFnExactThread
open Go.RowKit Go.Proofs.YtcbjdodehjpddaaW.PrintWords Go.Proofs.YtcbjdodehjpddaaW.PrintLast Go.Proofs.YtcbjdodehjpddaaW.PrintMore
attribute [local go_sem] max2_int min2_int max_two min_two max_three min_three max_four min_four   -- for this text's walks alone
set_option linter.unusedVariables false
set_option linter.unusedSimpArgs false

end Go.Proofs.Ytcbjdodehjpddaa.PFnExactThread
