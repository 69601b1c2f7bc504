/-
  The walks of the counts by places in the reference: l14Places, l14Depth.
-/
import Derived.Test.YtgiieoohocljpaaCounts
namespace Go.Proofs.Ytgiieoohocljpaa
set_option linter.unusedVariables false
open Go.RowKit





end Go.Proofs.Ytgiieoohocljpaa
