/-
  The walks of lots: LotsValid in the program and in the reference, who comes first, who has most.
-/
import Derived.Test.YtgiieoohocljpaaBallotSpec
import Derived.Test.YtgiieoohocljpaaBools
import Derived.Test.YtgiieoohocljpaaFirstPlain
namespace Go.Proofs.Ytgiieoohocljpaa
set_option linter.unusedVariables false
open Go.RowKit




end Go.Proofs.Ytgiieoohocljpaa
