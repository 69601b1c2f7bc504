/-
  The walks of the reference's l11Most and l11All: who has the greatest of some counts.
-/
import Derived.Test.YtleceoplfboefaaLots
namespace Go.Proofs.Ytleceoplfboefaa
set_option linter.unusedVariables false
open Go.RowKit


end Go.Proofs.Ytleceoplfboefaa
