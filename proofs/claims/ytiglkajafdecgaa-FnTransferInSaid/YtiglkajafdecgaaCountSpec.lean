/-
  The walks of the counts by places in the reference: l14Places, l14Depth.
-/
import Derived.Test.YtiglkajafdecgaaCounts
namespace Go.Proofs.Ytiglkajafdecgaa
set_option linter.unusedVariables false
open Go.RowKit





end Go.Proofs.Ytiglkajafdecgaa
