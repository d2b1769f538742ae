import Derived.Test.YtfegehfdbcnepaaWInv
import Derived.Test.YtfegehfdbcnepaaWFootNe
namespace Go.Proofs.YtfegehfdbcnepaaW.PrintWords
open Go.RowKit
end Go.Proofs.YtfegehfdbcnepaaW.PrintWords
namespace Go.Proofs.YtfegehfdbcnepaaW.PrintLast
section
variable {ops : Array Oper} {a : Act} {o og : Oper} {g : Nat} {t : Tmp} {u : Bool}
end
end Go.Proofs.YtfegehfdbcnepaaW.PrintLast
