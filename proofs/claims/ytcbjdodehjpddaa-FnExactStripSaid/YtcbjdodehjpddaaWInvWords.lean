import Derived.Test.YtcbjdodehjpddaaWInv
import Derived.Test.YtcbjdodehjpddaaWFootNe
namespace Go.Proofs.YtcbjdodehjpddaaW.PrintWords
open Go.RowKit
end Go.Proofs.YtcbjdodehjpddaaW.PrintWords
namespace Go.Proofs.YtcbjdodehjpddaaW.PrintLast
section
variable {ops : Array Oper} {a : Act} {o og : Oper} {g : Nat} {t : Tmp} {u : Bool}
end
end Go.Proofs.YtcbjdodehjpddaaW.PrintLast
