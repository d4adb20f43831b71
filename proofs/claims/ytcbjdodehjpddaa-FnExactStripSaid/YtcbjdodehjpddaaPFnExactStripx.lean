-- Printed by a turned copy of the print (wip/gen/patchprint.py), with contracts given by hand.
import Derived.Test.YtcbjdodehjpddaaPFnExactStripx0
import Derived.Test.YtcbjdodehjpddaaPFnExactStripx1
import Derived.Test.YtcbjdodehjpddaaPFnExactStripx2
import Derived.Test.YtcbjdodehjpddaaPFnExactStripx3
import Derived.Test.YtcbjdodehjpddaaPFnExactStripx4
import Derived.Test.YtcbjdodehjpddaaPFnExactStripx5
import Derived.Test.YtcbjdodehjpddaaPFnExactStripx6
import Derived.Test.YtcbjdodehjpddaaPFnExactStripx7
import Derived.Test.YtcbjdodehjpddaaPFnExactStripx8
namespace Go.Proofs.Ytcbjdodehjpddaa.PFnExactStrip
open Go.RowKit Go.Proofs.YtcbjdodehjpddaaW.PrintWords Go.Proofs.YtcbjdodehjpddaaW.PrintLast Go.Proofs.YtcbjdodehjpddaaW.PrintMore
attribute [local go_sem] max2_int min2_int max_two min_two max_three min_three max_four min_four   -- for this text's walks alone
set_option linter.unusedVariables false
set_option linter.unusedSimpArgs false

end Go.Proofs.Ytcbjdodehjpddaa.PFnExactStrip
