/-
  The walks of the counts by places in the reference: l14Places, l14Depth.
-/
import Derived.Test.YtleceoplfboefaaCounts
namespace Go.Proofs.Ytleceoplfboefaa
set_option linter.unusedVariables false
open Go.RowKit





end Go.Proofs.Ytleceoplfboefaa
